/- The law ChainStops: the walk. -/
import Derived.Test.YtafdbgielmlihaaDoorPkChClosedCardT
import Derived.Test.YtafdbgielmlihaaDoorPkChStopsCardA
import Derived.Test.YtafdbgielmlihaaDoorPkChClosedCardO
import Derived.Test.YtafdbgielmlihaaDoorPkChClosedCardP
import Derived.Lib.MinMax
namespace Go.Proofs.YtafdbgielmlihaaDoor
open Go.RowKit Go.Shelf Go.Lib
set_option maxRecDepth 100000
set_option linter.unusedSimpArgs false

theorem rem_nat {a : Int} {n : Nat} (ha : 0 ≤ a) (hn : 0 < n) : ∃ j : Nat, a.tmod (n : Int) = (j : Int) ∧ j < n := by
  refine ⟨(a.tmod (n : Int)).toNat, ?_, ?_⟩
  · have := Int.emod_nonneg a (show (n : Int) ≠ 0 by omega)
    rw [Int.tmod_eq_emod_of_nonneg ha]
    omega
  · have := Int.emod_lt_of_pos a (show (0 : Int) < n by omega)
    have := Int.emod_nonneg a (show (n : Int) ≠ 0 by omega)
    rw [Int.tmod_eq_emod_of_nonneg ha]
    omega
theorem rem_int {a b : Int} (ha : 0 ≤ a) (hb : 0 < b) : 0 ≤ a.tmod b ∧ a.tmod b < b := by
  have := Int.emod_nonneg a (show b ≠ 0 by omega)
  have := Int.emod_lt_of_pos a hb
  rw [Int.tmod_eq_emod_of_nonneg ha]
  omega
/-- The first of the sales by which the house deals. -/
def dealsB (c : Chn) (id : Int) (k : Nat) : Bool := (c.sales.take k).any fun x => decide (x.seller = id) || decide (x.buyer = id)
theorem deals_snoc {c : Chn} {id : Int} {k : Nat} {x : Sale} (hx : c.sales[k]? = some x) : dealsB c id (k + 1) = (dealsB c id k || (decide (x.seller = id) || decide (x.buyer = id))) := by
  unfold dealsB
  rw [List.take_add_one, hx, List.any_append]
  simp
theorem deals_none {c : Chn} {id : Int} {s : Span} (h : dealsB c id c.sales.length = false) : hiI (losesAll c id s) = 0 := by
  unfold dealsB at h
  rw [List.take_of_length_le (Nat.le_refl _), List.any_eq_false] at h
  refine hiTo_zero (fun x hx => ?_) _
  obtain ⟨h', -, rfl⟩ := List.mem_map.1 hx
  have e := fun p => claim_none (c := c) (h := h') (st := id) (fun y hy => by
    have := h y hy
    simp at this
    exact ⟨fun k => this.1 k.1, fun k => this.2 k.1⟩) p
  show max 0 (max (claimI c h' id s.lo) (claimI c h' id s.hi)) = 0
  rw [e, e]
  rfl
theorem claims_at (c : Chn) (h st p k : Int) (hv sv : Value) (w : World) (hR : Right c) (hN : c.sales.length ≤ 10) (hp : 0 ≤ p ∧ p ≤ 1000000) (hh : SlI w hv c.houses) (hs : SlL w sv c.sales) (hk : claimI c h st p = k) :
    Calls Tryd.prog 67 #[valC hv sv, .int .i64 h, .int .i64 st, .int .i64 p] w fun e w' => e = .returned (.int .i64 k) ∧ Ext w w' := hk ▸ claims_any c h st p hv sv w hR hN hp hh hs
set_option maxHeartbeats 8000000 in
theorem stopsLaw_of (hA : AliveT) (c : Chn) (which one two three : Int) (hv sv : Value) (w : World) (hT : Tab w) (hh : SlI w hv c.houses) (hs : SlL w sv c.sales) (hi0 : 0 ≤ which ∧ which ≤ 255) (hi1 : 0 ≤ one ∧ one ≤ 4294967295) (hi2 : 0 ≤ two ∧ two ≤ 4294967295) (hi3 : 0 ≤ three ∧ three ≤ 4294967295) :
    Calls Tryd.prog 14 #[valC hv sv, .int .u8 which, .int .u32 one, .int .u32 two, .int .u32 three] w fun e w' => e = .returned (.bool true) ∧ Ext w w' := by
  have HT := Lib.hid hT; have HH := Lib.hid hh; have HS := Lib.hid hs
  obtain ⟨A, n, cp, rfl, hn, hlc, hcm⟩ := hh.form
  obtain ⟨A2, n2, cp2, rfl, hn2, hlc2, hcm2⟩ := hs.form
  have HI0 := Lib.hid hi0; have HI1 := Lib.hid hi1; have HI2 := Lib.hid hi2; have HI3 := Lib.hid hi3
  have B0 := Lib.hid (show Blk (w.alloc (.cells #[.slice A n cp, .slice A2 n2 cp2] 25)) w.heap.size 25 #[.slice A n cp, .slice A2 n2 cp2] from Blk.new _ _ _)
  have E0 := Lib.hid (Ext.al w (.cells #[.slice A n cp, .slice A2 n2 cp2] 25))
  clear hh hs hT hi0 hi1 hi2 hi3
  go_enter Tryd.func14, Tryd.ntmps14
  go_wp2_with fail
  refine (hA _ (HT.out.ext E0.out)).mono ?_
  rintro e w1 ⟨rfl, hE⟩
  replace E0 := Lib.hid (E0.out.trans hE); replace B0 := Lib.hid (B0.out.ext hE); clear hE
  have t0 := B0.out.c2
  go_wp2_with fail
  refine (ready_any c _ _ _ (HH.out.ext E0.out) (HS.out.ext E0.out)).mono ?_
  rintro e w2 ⟨rfl, hE⟩
  replace E0 := Lib.hid (E0.out.trans hE); replace B0 := Lib.hid (B0.out.ext hE); clear hE t0
  cases hc : checkP c with
  | false =>
    clear hc
    go_wp2
    go_ret
    exact ⟨rfl, E0.out⟩
  | true =>
    have HC := Lib.hid hc; clear hc
    have t0 := B0.out.c2
    by_cases h0 : n = 0
    · subst h0
      go_wp2
      go_ret
      exact ⟨rfl, E0.out⟩
    · have HR := Lib.hid (check_right HC.out).1
      have HN := Lib.hid (check_right HC.out).2
      have hnz : ¬ (n : Int) = 0 := by omega
      have hnq : ((n : Int) == 0) = false := by simpa using h0
      obtain ⟨j, hj, hjn⟩ := rem_nat HI0.out.1 (show 0 < n by omega)
      have hjz : (j : Int) < (n : Int) := by omega
      obtain ⟨bh, fh, id, rfl, hid, -, hch⟩ := HH.out.at_ hjn
      have hw0 : IntKind.i64.wrap which = which := by rw [IntKind.wrap_i64]; have := HI0.out; omega
      have hw1 : IntKind.i64.wrap one = one := by rw [IntKind.wrap_i64]; have := HI1.out; omega
      have hw2 : IntKind.i64.wrap two = two := by rw [IntKind.wrap_i64]; have := HI2.out; omega
      have hw3 : IntKind.i64.wrap three = three := by rw [IntKind.wrap_i64]; have := HI3.out; omega
      have m0 := fun W (h : Ext w2 W) => (B0.out.ext h).c2
      have m1 := fun W (h : Ext w2 W) => (show W.cell? ⟨bh, fh + j, none⟩ = some (.int .i64 id) by simpa using hch W (E0.out.trans h) 0 _ rfl)
      clear hch
      go_wp2
      refine wp_region_tame (fun W => Ext w2 W) (fun W W' => Ext W W') (by kernel_rfl) 277 rfl (by decide +kernel) (Ext.refl _).drew ?_
      repeat (apply tame_q rfl; (intro ρ W hC hr hD; (obtain ⟨hrc, hrg, hrf, hrs⟩ := hr); (simp [go_sem] at hD); go_simp; first | exact ⟨⟨hC, Ext.refl _⟩, rfl⟩ | exact ⟨⟨hC, RS.refl _⟩, rfl⟩ | exact rfl); simp only [List.nil_append, List.cons_append])
      refine tame_end_put rfl rfl (fun ρ W hC hr hF => ?_)
      simp [go_sem] at hF
      simp only [putF, hF, List.set_cons_succ, List.set_cons_zero]
      clear hF hr
      obtain ⟨w3, hw3'⟩ : ∃ w3, w3 = W := ⟨_, rfl⟩
      subst hw3'
      replace E0 := Lib.hid (E0.out.trans hC); replace B0 := Lib.hid (B0.out.ext hC)
      clear hC m0 m1 t0
      obtain ⟨a, ha⟩ : ∃ a, one.tmod 1000001 = a := ⟨_, rfl⟩
      obtain ⟨b, hb⟩ : ∃ b, two.tmod 1000001 = b := ⟨_, rfl⟩
      have hab : (0 ≤ a ∧ a ≤ 1000000) ∧ (0 ≤ b ∧ b ≤ 1000000) := by
        have h1 := rem_int HI1.out.1 (show (0 : Int) < 1000001 by decide)
        have h2 := rem_int HI2.out.1 (show (0 : Int) < 1000001 by decide)
        rw [ha] at h1
        rw [hb] at h2
        omega
      obtain ⟨lo, hlo⟩ : ∃ lo, min a b = lo := ⟨_, rfl⟩
      obtain ⟨hi, hhi⟩ : ∃ hi, max a b = hi := ⟨_, rfl⟩
      have HL := Lib.hid (show 0 ≤ lo ∧ lo ≤ hi ∧ hi ≤ 1000000 by omega)
      have HPR := Lib.hid (show pricedB ⟨lo, hi⟩ = true by
        have := HL.out
        unfold pricedB
        rw [Bool.and_eq_true, inB_iff, inB_iff]
        simp only
        omega)
      clear hab
      go_wp2_with fail
      refine (span_any lo hi _).mono ?_
      rintro e w4 ⟨rfl, hE⟩
      clear ha hb hlo hhi
      replace E0 := Lib.hid (E0.out.trans hE); replace B0 := Lib.hid (B0.out.ext hE); clear hE
      go_wp2
      obtain ⟨wa, hwa⟩ : ∃ wa, wa = w4.alloc (.cells #[.int .i64 lo, .int .i64 hi] 48) := ⟨_, rfl⟩
      have BP := Lib.hid (show Blk wa w4.heap.size 48 #[.int .i64 lo, .int .i64 hi] from hwa ▸ Blk.new _ _ _)
      replace E0 := Lib.hid (show Ext w wa from hwa ▸ E0.out.alloc _); replace B0 := Lib.hid (show Blk wa w.heap.size 25 _ from hwa ▸ B0.out.alloc _)
      rw [← hwa]
      clear hwa
      obtain ⟨r, hr⟩ : ∃ r, three.tmod (hi - lo + 1) = r := ⟨_, rfl⟩
      have hrr : 0 ≤ r ∧ r < hi - lo + 1 := by
        have := HL.out
        rw [← hr]
        exact rem_int HI3.out.1 (by omega)
      have hq1 : IntKind.i64.wrap (hi - lo) = hi - lo := by rw [IntKind.wrap_i64]; have := HL.out; omega
      have hq2 : IntKind.i64.wrap (hi - lo + 1) = hi - lo + 1 := by rw [IntKind.wrap_i64]; have := HL.out; omega
      have hq3 : IntKind.i64.wrap (lo + r) = lo + r := by rw [IntKind.wrap_i64]; have := HL.out; omega
      have hq4 : IntKind.i64.wrap r = r := by rw [IntKind.wrap_i64]; have := HL.out; omega
      have hqz : ¬ hi - lo + 1 = 0 := by have := HL.out; omega
      obtain ⟨p, hp⟩ : ∃ p, lo + r = p := ⟨_, rfl⟩
      have HP := Lib.hid (show lo ≤ p ∧ p ≤ hi by omega)
      rw [hp] at hq3
      have m0 := fun W (h : Ext wa W) => (BP.out.ext h).c2
      refine wp_region_tame (fun W => Ext wa W) (fun W W' => Ext W W') (by kernel_rfl) 277 rfl (by decide +kernel) (Ext.refl _).drew ?_
      repeat (apply tame_q rfl; (intro ρ W hC hr hD; (obtain ⟨hrc, hrg, hrf, hrs⟩ := hr); (simp [go_sem] at hD); go_simp; first | exact ⟨⟨hC, Ext.refl _⟩, rfl⟩ | exact ⟨⟨hC, RS.refl _⟩, rfl⟩ | exact rfl); simp only [List.nil_append, List.cons_append])
      refine tame_end_put rfl rfl (fun ρ W hC hr hF => ?_)
      simp [go_sem] at hF
      simp only [putF, hF, List.set_cons_succ, List.set_cons_zero]
      clear hF hr
      obtain ⟨w5, hw5⟩ : ∃ w5, w5 = W := ⟨_, rfl⟩
      subst hw5
      replace E0 := Lib.hid (E0.out.trans hC); replace B0 := Lib.hid (B0.out.ext hC); replace BP := Lib.hid (BP.out.ext hC)
      clear hC m0 hr hrr hq1 hq2 hq3 hq4 hqz hp hw0 hw1 hw2 hw3 hj hjz
      have t0 := B0.out.c2
      have t1 := BP.out.c2
      have HLE := Lib.hid (show losesE c id ⟨lo, hi⟩ = 0 by unfold losesE; rw [if_pos HC.out, if_pos (hasI_iff.2 (List.mem_of_getElem? hid)), if_pos HPR.out])
      have HLL := Lib.hid (show losesL c id ⟨lo, hi⟩ = losesAll c id ⟨lo, hi⟩ by unfold losesL; rw [if_pos HLE.out])
      have HID := Lib.hid hid; clear hid
      go_wp2_with fail
      refine (loses_any c id ⟨lo, hi⟩ _ _ _ (HT.out.ext E0.out) (HH.out.ext E0.out) (HS.out.ext E0.out) (by have := HN.out; omega)).mono ?_
      rintro e w6 ⟨⟨v17, rfl, hu⟩, hE⟩
      rw [HLE.out]
      rw [HLL.out] at hu
      replace E0 := Lib.hid (E0.out.trans hE); replace B0 := Lib.hid (B0.out.ext hE); replace BP := Lib.hid (BP.out.ext hE)
      have LS := Lib.hid hu; clear hE hu t0 t1
      have t0 := B0.out.c2
      have t1 := BP.out.c2
      have HWE := Lib.hid (show worstE c ⟨lo, hi⟩ = 0 by unfold worstE; rw [if_pos HC.out, if_pos HPR.out, if_neg (by have := hn.out; omega)])
      obtain ⟨q, hq⟩ : ∃ q, worstP c ⟨lo, hi⟩ = q := ⟨_, rfl⟩
      obtain ⟨house, pence⟩ := q
      have HQ := Lib.hid (show worstTo c ⟨lo, hi⟩ c.houses.length = (house, pence) by rw [← hq]; unfold worstP; rw [if_pos HWE.out])
      have HWM := worst_most HR.out HN.out HPR.out c.houses.length (Nat.le_refl _)
      rw [HQ.out] at HWM
      have HW1 := Lib.hid HWM.1
      have HW2 := Lib.hid (HWM.2.1 (by have := hn.out; omega))
      clear HWM HQ
      go_wp2_with fail
      refine (worst_any c ⟨lo, hi⟩ _ _ _ (HT.out.ext E0.out) (HH.out.ext E0.out) (HS.out.ext E0.out) (by have := HN.out; omega)).mono ?_
      rintro e w7 ⟨rfl, hE⟩
      rw [HWE.out, hq]
      replace E0 := Lib.hid (E0.out.trans hE); replace B0 := Lib.hid (B0.out.ext hE); replace BP := Lib.hid (BP.out.ext hE); replace LS := Lib.hid (LS.out.ext hE)
      clear hE hq t0 t1
      have t0 := B0.out.c2
      obtain ⟨A7, n7, c7, rfl, hn7, -, -⟩ := LS.out.form
      have e7 : n = n7 := by have := hn.out; have := hn7.out; unfold losesAll at this; rw [List.length_map] at this; omega
      subst e7
      clear hn7
      have HHM := Lib.hid (show house ∈ c.houses by have := HW2.out.1; exact List.mem_of_mem_take this)
      go_wp2_with fail
      refine (house_any c house _ _ _ (HH.out.ext E0.out) (HS.out.ext E0.out)).mono ?_
      rintro e w8 ⟨rfl, hE⟩
      replace E0 := Lib.hid (E0.out.trans hE); replace B0 := Lib.hid (B0.out.ext hE); replace BP := Lib.hid (BP.out.ext hE); replace LS := Lib.hid (LS.out.ext hE)
      clear hE t0
      have hhn : ¬ houseI c house < 0 := by have := (houseI_lt HHM.out).1; omega
      generalize houseI c house = hx0 at hhn
      go_wp2
      have HZ := Lib.hid (show hiTo (losesAll c id ⟨lo, hi⟩) 0 = 0 by simp [hiTo])
      go_loopg [22, 122] n (fun gg al s wr => ∃ kk : Nat, kk ≤ n ∧ n - kk ≤ gg ∧ s = .int .i64 kk ∧ al = .int .i64 (hiTo (losesAll c id ⟨lo, hi⟩) kk) ∧ Aside (Ext w8 wr))
      case atStart => exact ⟨0, Nat.zero_le _, by omega, rfl, by rw [HZ.out], Ext.refl _⟩
      case round =>
        obtain ⟨kk, hle, hm2, rfl, rfl, EX⟩ := hrel
        have EX := Lib.hid EX.out
        replace E0 := Lib.hid (E0.out.trans EX.out); replace B0 := Lib.hid (B0.out.ext EX.out); replace BP := Lib.hid (BP.out.ext EX.out); replace LS := Lib.hid (LS.out.ext EX.out)
        by_cases hlt : kk < n
        · have hltz : (kk : Int) < (n : Int) := by omega
          obtain ⟨bl, fl, sp, rfl, hsp, -, hcl⟩ := LS.out.at_ hlt
          obtain ⟨bh', fh', hk, eH, hhk, -, hch⟩ := HH.out.at_ hlt
          cases eH
          obtain ⟨slo, shi⟩ := sp
          have hls := hsp
          unfold losesAll at hls
          rw [List.getElem?_map, hhk] at hls
          have hls2 : loseS c id ⟨lo, hi⟩ hk = ⟨slo, shi⟩ := by simpa using hls
          unfold loseS at hls2
          simp only [Span.mk.injEq] at hls2
          obtain ⟨x, hx⟩ : ∃ x, claimI c hk id lo = x := ⟨_, rfl⟩
          obtain ⟨y, hy⟩ : ∃ y, claimI c hk id p = y := ⟨_, rfl⟩
          obtain ⟨z, hz⟩ : ∃ z, claimI c hk id hi = z := ⟨_, rfl⟩
          have hmid := claim_mid c hk id HP.out.1 HP.out.2
          rw [hx, hy, hz] at hmid
          rw [hx, hz] at hls2
          have HCX := Lib.hid hx; have HCY := Lib.hid hy; have HCZ := Lib.hid hz
          obtain ⟨X, hX⟩ : ∃ X, max 0 x = X := ⟨_, rfl⟩
          obtain ⟨Y, hY⟩ : ∃ Y, max 0 y = Y := ⟨_, rfl⟩
          obtain ⟨Z, hZ⟩ : ∃ Z, max 0 z = Z := ⟨_, rfl⟩
          have hmn : min X Z = slo := by omega
          have hmx : max X Z = shi := by omega
          have q1 : ¬ Y < slo := by omega
          have q2 : ¬ shi < Y := by omega
          have hself : hk = id → slo = 0 ∧ shi = 0 := fun e => by
            subst e
            have e1 := claim_self HR.out hk lo
            have e2 := claim_self HR.out hk hi
            omega
          have hbd := hiTo_bd (l := losesAll c id ⟨lo, hi⟩) (B := 90000000) (by decide) (fun x hx => by
            obtain ⟨h, -, rfl⟩ := List.mem_map.1 hx
            exact loseS_bd HR.out HN.out HPR.out) kk
          have hbs := loseS_bd (st := id) (h := hk) HR.out HN.out HPR.out
          have HST := Lib.hid (hiTo_succ hsp)
          generalize hiTo (losesAll c id ⟨lo, hi⟩) kk = al at *
          have hwa : IntKind.i64.wrap (al + shi) = al + shi := by
            have h6 := HR.out.h6
            have h7 := hn.out
            have : shi ≤ 90000000 := by
              have := hbs.2
              unfold loseS at this
              simp only at this
              rw [HCX.out, HCZ.out] at this
              omega
            rw [IntKind.wrap_i64]; omega
          have hwa0 : IntKind.i64.wrap al = al := by
            have h6 := HR.out.h6
            have h7 := hn.out
            rw [IntKind.wrap_i64]; omega
          clear hls hls2 hx hy hz hmid hbd hbs hsp hhk
          have d0 : wr.cell? ⟨bl, fl + kk * 2, none⟩ = some (.int .i64 slo) := by simpa using hcl wr (Ext.refl _) 0 _ rfl
          have d1 : wr.cell? ⟨bl, fl + kk * 2 + 1, none⟩ = some (.int .i64 shi) := by simpa using hcl wr (Ext.refl _) 1 _ rfl
          go_wp2
          obtain ⟨wb, hwb⟩ : ∃ wb, wb = wr.alloc (.cells #[.int .i64 slo, .int .i64 shi] 48) := ⟨_, rfl⟩
          have BS := Lib.hid (show Blk wb wr.heap.size 48 #[.int .i64 slo, .int .i64 shi] from hwb ▸ Blk.new _ _ _)
          have EB := Lib.hid (show Ext w wb from hwb ▸ E0.out.alloc _)
          have BB := Lib.hid (show Blk wb w.heap.size 25 _ from hwb ▸ B0.out.alloc _)
          have BQ := Lib.hid (show Blk wb w4.heap.size 48 _ from hwb ▸ BP.out.alloc _)
          have EY := Lib.hid (show Ext w8 wb from hwb ▸ EX.out.alloc _)
          rw [← hwb]
          clear hwb d0 d1
          have m0 := fun W (h : Ext wb W) => (BB.out.ext h).c2
          have m1 := fun W (h : Ext wb W) => (BQ.out.ext h).c2
          have m2 := fun W (h : Ext wb W) => (show W.cell? ⟨bh, fh + kk, none⟩ = some (.int .i64 hk) by simpa using hch W (EB.out.trans h) 0 _ rfl)
          have HPB := Lib.hid (show (0 ≤ lo ∧ lo ≤ 1000000) ∧ (0 ≤ hi ∧ hi ≤ 1000000) ∧ (0 ≤ p ∧ p ≤ 1000000) by have := HL.out; have := HP.out; omega)
          refine wp_region_tame (fun W => Ext wb W) (fun W W' => Ext W W') (by kernel_rfl) 277 rfl (by decide +kernel) (Ext.refl _).drew ?_
          repeat (apply tame_q rfl; (intro ρ W hC hr hD; (obtain ⟨hrc, hrg, hrf, hrs⟩ := hr); (simp [go_sem] at hD); go_simp; first | exact ⟨⟨hC, Ext.refl _⟩, rfl⟩ | exact ⟨⟨hC, RS.refl _⟩, rfl⟩ | exact rfl); simp only [List.nil_append, List.cons_append])
          apply tame_q rfl
          · intro ρ W hC hr hD
            obtain ⟨hrc, hrg, hrf, hrs⟩ := hr
            simp [go_sem] at hD
            go_simp
            refine (claims_at c hk id lo x _ _ W HR.out HN.out HPB.out.1 (HH.out.ext (EB.out.trans hC)) (HS.out.ext (EB.out.trans hC)) HCX.out).mono ?_
            rintro e w' ⟨rfl, hE⟩
            exact ⟨_, rfl, ⟨hC.trans hE, hE⟩, rfl⟩
          simp only [List.nil_append, List.cons_append]
          repeat (apply tame_q rfl; (intro ρ W hC hr hD; (obtain ⟨hrc, hrg, hrf, hrs⟩ := hr); (simp [go_sem] at hD); go_simp; first | exact ⟨⟨hC, Ext.refl _⟩, rfl⟩ | exact ⟨⟨hC, RS.refl _⟩, rfl⟩ | exact rfl); simp only [List.nil_append, List.cons_append])
          apply tame_q rfl
          · intro ρ W hC hr hD
            obtain ⟨hrc, hrg, hrf, hrs⟩ := hr
            simp [go_sem] at hD
            go_simp
            refine (claims_at c hk id p y _ _ W HR.out HN.out HPB.out.2.2 (HH.out.ext (EB.out.trans hC)) (HS.out.ext (EB.out.trans hC)) HCY.out).mono ?_
            rintro e w' ⟨rfl, hE⟩
            exact ⟨_, rfl, ⟨hC.trans hE, hE⟩, rfl⟩
          simp only [List.nil_append, List.cons_append]
          repeat (apply tame_q rfl; (intro ρ W hC hr hD; (obtain ⟨hrc, hrg, hrf, hrs⟩ := hr); (simp [go_sem] at hD); go_simp; first | exact ⟨⟨hC, Ext.refl _⟩, rfl⟩ | exact ⟨⟨hC, RS.refl _⟩, rfl⟩ | exact rfl); simp only [List.nil_append, List.cons_append])
          apply tame_q rfl
          · intro ρ W hC hr hD
            obtain ⟨hrc, hrg, hrf, hrs⟩ := hr
            simp [go_sem] at hD
            go_simp
            refine (claims_at c hk id hi z _ _ W HR.out HN.out HPB.out.2.1 (HH.out.ext (EB.out.trans hC)) (HS.out.ext (EB.out.trans hC)) HCZ.out).mono ?_
            rintro e w' ⟨rfl, hE⟩
            exact ⟨_, rfl, ⟨hC.trans hE, hE⟩, rfl⟩
          simp only [List.nil_append, List.cons_append]
          repeat (apply tame_q rfl; (intro ρ W hC hr hD; (obtain ⟨hrc, hrg, hrf, hrs⟩ := hr); (simp [go_sem] at hD); go_simp; first | exact ⟨⟨hC, Ext.refl _⟩, rfl⟩ | exact ⟨⟨hC, RS.refl _⟩, rfl⟩ | exact rfl); simp only [List.nil_append, List.cons_append])
          refine tame_end_put rfl rfl (fun ρ W hC hr hF => ?_)
          simp [go_sem] at hF
          simp only [putF, hF, List.set_cons_succ, List.set_cons_zero]
          clear hF hr
          obtain ⟨wd, hwd⟩ : ∃ wd, wd = W := ⟨_, rfl⟩
          subst hwd
          have n0 := fun W (h : Ext wd W) => m0 W (hC.trans h)
          have n1 := fun W (h : Ext wd W) => m2 W (hC.trans h)
          have n2' := fun W (h : Ext wd W) => ((BS.out.ext hC).ext h).c2
          have ED := Lib.hid (EY.out.trans hC)
          have ED0 := Lib.hid hC
          clear m0 m1 m2 hC
          have ne := fun a b w => neq48s a b w
          go_wp2
          by_cases hki : hk = id
          · obtain ⟨z0, z1⟩ := hself hki
            subst z0 z1 hki
            clear hself
            refine wp_region_tame (fun W => Ext wd W) (fun W W' => Ext W W') (by kernel_rfl) 277 rfl (by decide +kernel) (Ext.refl _).drew ?_
            repeat (apply tame_q rfl; (intro ρ W hC hr hD; (obtain ⟨hrc, hrg, hrf, hrs⟩ := hr); (simp [go_sem] at hD); go_simp; first | exact ⟨⟨hC, Ext.refl _⟩, rfl⟩ | exact ⟨⟨hC, RS.refl _⟩, rfl⟩ | exact rfl); simp only [List.nil_append, List.cons_append])
            apply tame_q rfl
            · intro ρ W hC hr hD
              obtain ⟨hrc, hrg, hrf, hrs⟩ := hr
              simp [go_sem] at hD
              go_simp
              refine (span_any 0 0 _).mono ?_
              rintro e w' ⟨rfl, hE⟩
              exact ⟨_, rfl, ⟨hC.trans hE, hE⟩, rfl⟩
            simp only [List.nil_append, List.cons_append]
            repeat (apply tame_q rfl; (intro ρ W hC hr hD; (obtain ⟨hrc, hrg, hrf, hrs⟩ := hr); (simp [go_sem] at hD); go_simp; first | exact ⟨⟨hC, Ext.refl _⟩, rfl⟩ | exact ⟨⟨hC, RS.refl _⟩, rfl⟩ | exact rfl); simp only [List.nil_append, List.cons_append])
            apply tame_q rfl
            · intro ρ W hC hr hD
              obtain ⟨hrc, hrg, hrf, hrs⟩ := hr
              simp [go_sem] at hD
              go_simp
              refine (span_any 0 0 _).mono ?_
              rintro e w' ⟨rfl, hE⟩
              exact ⟨_, rfl, ⟨hC.trans hE, hE⟩, rfl⟩
            simp only [List.nil_append, List.cons_append]
            repeat (apply tame_q rfl; (intro ρ W hC hr hD; (obtain ⟨hrc, hrg, hrf, hrs⟩ := hr); (simp [go_sem] at hD); go_simp; first | exact ⟨⟨hC, Ext.refl _⟩, rfl⟩ | exact ⟨⟨hC, RS.refl _⟩, rfl⟩ | exact rfl); simp only [List.nil_append, List.cons_append])
            refine tame_end_put rfl rfl (fun ρ W hC hr hF => ?_)
            simp [go_sem] at hF
            simp only [putF, hF, List.set_cons_succ, List.set_cons_zero]
            clear hF hr
            have BS2 := Lib.hid ((BS.out.ext (ED0.out)).ext hC)
            have EF := Lib.hid (ED.out.trans hC)
            have r0 := BS2.out.c2
            clear hC n0 n1 n2' ne
            go_wp2
            go_roundg (n - (kk + 1))
            case measure => omega
            case rel => exact ⟨kk + 1, by omega, by omega, by simp, by rw [HST.out]; simp, EF.out⟩
          · have hkq : (hk == id) = false := by simpa using hki
            refine wp_region_tame (fun W => Ext wd W) (fun W W' => Ext W W') (by kernel_rfl) 277 rfl (by decide +kernel) (Ext.refl _).drew ?_
            repeat (apply tame_q rfl; (intro ρ W hC hr hD; (obtain ⟨hrc, hrg, hrf, hrs⟩ := hr); (simp [go_sem] at hD); go_simp; first | exact ⟨⟨hC, Ext.refl _⟩, rfl⟩ | exact ⟨⟨hC, RS.refl _⟩, rfl⟩ | exact rfl); simp only [List.nil_append, List.cons_append])
            apply tame_q rfl
            · intro ρ W hC hr hD
              obtain ⟨hrc, hrg, hrf, hrs⟩ := hr
              simp [go_sem] at hD
              go_simp
              refine (span_any slo shi _).mono ?_
              rintro e w' ⟨rfl, hE⟩
              exact ⟨_, rfl, ⟨hC.trans hE, hE⟩, rfl⟩
            simp only [List.nil_append, List.cons_append]
            repeat (apply tame_q rfl; (intro ρ W hC hr hD; (obtain ⟨hrc, hrg, hrf, hrs⟩ := hr); (simp [go_sem] at hD); go_simp; first | exact ⟨⟨hC, Ext.refl _⟩, rfl⟩ | exact ⟨⟨hC, RS.refl _⟩, rfl⟩ | exact rfl); simp only [List.nil_append, List.cons_append])
            refine tame_end_put rfl rfl (fun ρ W hC hr hF => ?_)
            simp [go_sem] at hF
            simp only [putF, hF, List.set_cons_succ, List.set_cons_zero]
            clear hF hr
            have BS2 := Lib.hid ((BS.out.ext (ED0.out)).ext hC)
            have EF := Lib.hid (ED.out.trans hC)
            have r0 := BS2.out.c2
            clear hC n0 n1 n2' ne
            go_wp2
            go_roundg (n - (kk + 1))
            case measure => omega
            case rel => exact ⟨kk + 1, by omega, by omega, by simp, by rw [HST.out], EF.out⟩
        · have hkk : kk = n := by omega
          subst hkk
          obtain ⟨wx, hwx⟩ : ∃ wx, wx = wr := ⟨_, rfl⟩
          subst hwx
          have t0 := B0.out.c2
          obtain ⟨al, hal⟩ : ∃ al, hiTo (losesAll c id ⟨lo, hi⟩) kk = al := ⟨_, rfl⟩
          have HAL := Lib.hid (show hiI (losesAll c id ⟨lo, hi⟩) = al by
            rw [← hal]; unfold hiI losesAll; rw [List.length_map, ← hn.out])
          rw [hal]
          clear hal
          go_wp2
          clear t0
          go_loopg [23, 202] n2 (fun gg dl s wr => ∃ jj : Nat, jj ≤ n2 ∧ n2 - jj ≤ gg ∧ s = .int .i64 jj ∧ dl = .bool (dealsB c id jj) ∧ Aside (Ext wx wr))
          case atStart => exact ⟨0, Nat.zero_le _, by omega, rfl, rfl, Ext.refl _⟩
          case round =>
            obtain ⟨jj, hle, hm2, rfl, rfl, EX⟩ := hrel
            have EX := Lib.hid EX.out
            replace E0 := Lib.hid (E0.out.trans EX.out); replace B0 := Lib.hid (B0.out.ext EX.out); replace BP := Lib.hid (BP.out.ext EX.out)
            by_cases hlt : jj < n2
            · have hltz : (jj : Int) < (n2 : Int) := by omega
              obtain ⟨b, off, x, rfl, hx, -, hcell⟩ := HS.out.at_ hlt
              obtain ⟨c0, c1, c2, c3, c4⟩ := SlL.cells hcell E0.out
              have HST := Lib.hid (deals_snoc (id := id) hx)
              generalize dealsB c id jj = dj at *
              clear hx hcell
              cases dj <;> by_cases s1 : x.seller = id <;> by_cases s2 : x.buyer = id
              all_goals
                have q1 : (x.seller == id) = decide (x.seller = id) := by rw [Bool.eq_iff_iff]; simp
                have q2 : (x.buyer == id) = decide (x.buyer = id) := by rw [Bool.eq_iff_iff]; simp
                go_wp2
                go_roundg (n2 - (jj + 1))
                case measure => omega
                case rel => exact ⟨jj + 1, by omega, by omega, by simp, by rw [HST.out]; simp [s1, s2], EX.out.alloc _⟩
            · have hjj : jj = n2 := by omega
              subst hjj
              obtain ⟨wy, hwy⟩ : ∃ wy, wy = wr := ⟨_, rfl⟩
              subst hwy
              obtain ⟨dl, hdl⟩ : ∃ dl, dealsB c id jj = dl := ⟨_, rfl⟩
              rw [hdl]
              have hz : dl = false → al = 0 := fun h => by
                rw [h, hn2.out] at hdl
                rw [← HAL.out]
                exact deals_none hdl
              have hw := HW1.out j id (by have := hn.out; omega) HID.out
              rw [HAL.out] at hw
              have hle1 : ¬ pence < al := by have := hw.1; omega
              have hle2 : al = pence → ¬ id < house := fun h => by have := hw.2 h; omega
              have HSM := Lib.hid (show hiI (losesAll c house ⟨lo, hi⟩) = pence from HW2.out.2)
              have HLE2 := Lib.hid (show losesE c house ⟨lo, hi⟩ = 0 by unfold losesE; rw [if_pos HC.out, if_pos (hasI_iff.2 HHM.out), if_pos HPR.out])
              have HLL2 := Lib.hid (show losesL c house ⟨lo, hi⟩ = losesAll c house ⟨lo, hi⟩ by unfold losesL; rw [if_pos HLE2.out])
              have t0 := B0.out.c2
              have t1 := BP.out.c2
              clear hw hdl hjn EX HLL LS
              cases dl <;> by_cases e1 : al = pence
              · have a0 := hz rfl
                have a1 := hle2 e1
                clear hz hle2
                go_wp2_with fail
                refine (loses_any c house ⟨lo, hi⟩ _ _ _ (HT.out.ext E0.out) (HH.out.ext E0.out) (HS.out.ext E0.out) (by have := HN.out; omega)).mono ?_
                rintro e w9 ⟨⟨v31, rfl, hu⟩, hE⟩
                rw [HLE2.out]
                rw [HLL2.out] at hu
                have HSZ := Lib.hid (show hiI (losesAll c house ⟨lo, hi⟩) = 0 by have := HSM.out; omega)
                replace E0 := Lib.hid (E0.out.trans hE)
                have LM := Lib.hid hu
                obtain ⟨A8, n8, c8, rfl, hn8, -, -⟩ := LM.out.form
                have e8 : kk = n8 := by have := hn.out; have := hn8.out; unfold losesAll at this; rw [List.length_map] at this; omega
                subst e8
                clear hE hu t0 t1 hn8
                have HZ3 := Lib.hid (show hiTo (losesAll c house ⟨lo, hi⟩) 0 = 0 by simp [hiTo])
                go_wp2
                go_loopg [33, 250] kk (fun gg q s wr => ∃ ii : Nat, ii ≤ kk ∧ kk - ii ≤ gg ∧ s = .int .i64 ii ∧ q = .int .i64 (hiTo (losesAll c house ⟨lo, hi⟩) ii) ∧ Aside (Ext w9 wr))
                case atStart => exact ⟨0, Nat.zero_le _, by omega, rfl, by rw [HZ3.out], Ext.refl _⟩
                case round =>
                  obtain ⟨ii, hle, hm2, rfl, rfl, EX⟩ := hrel
                  have EX := Lib.hid EX.out
                  by_cases hlt : ii < kk
                  · have hltz : (ii : Int) < (kk : Int) := by omega
                    obtain ⟨bl, fl, sp, rfl, hsp, -, hcl⟩ := LM.out.at_ hlt
                    obtain ⟨slo, shi⟩ := sp
                    have hbd := hiTo_bd (l := losesAll c house ⟨lo, hi⟩) (B := 90000000) (by decide) (fun x hx => by
                      obtain ⟨h, -, rfl⟩ := List.mem_map.1 hx
                      exact loseS_bd HR.out HN.out HPR.out) ii
                    have hbs : 0 ≤ shi ∧ shi ≤ 90000000 := by
                      have hm := List.mem_of_getElem? hsp
                      obtain ⟨h, -, e⟩ := List.mem_map.1 hm
                      have := loseS_bd (st := house) (h := h) HR.out HN.out HPR.out
                      rw [e] at this
                      exact this
                    have HST := Lib.hid (hiTo_succ hsp)
                    generalize hiTo (losesAll c house ⟨lo, hi⟩) ii = ql at *
                    have hwa : IntKind.i64.wrap (ql + shi) = ql + shi := by
                      have h6 := HR.out.h6
                      have h7 := hn.out
                      rw [IntKind.wrap_i64]; omega
                    have q1 : ¬ shi < 0 := by omega
                    have q2 : ¬ 100000000 < shi := by omega
                    have d0 : wr.cell? ⟨bl, fl + ii * 2, none⟩ = some (.int .i64 slo) := by simpa using hcl wr EX.out 0 _ rfl
                    have d1 : wr.cell? ⟨bl, fl + ii * 2 + 1, none⟩ = some (.int .i64 shi) := by simpa using hcl wr EX.out 1 _ rfl
                    clear hsp hcl hbd hbs
                    go_wp2
                    go_roundg (kk - (ii + 1))
                    case measure => omega
                    case rel => exact ⟨ii + 1, by omega, by omega, by simp, by rw [HST.out], EX.out.alloc _⟩
                  · have hii : ii = kk := by omega
                    have HQZ := Lib.hid (show hiTo (losesAll c house ⟨lo, hi⟩) ii = 0 by
                      rw [← HSZ.out, hii]; unfold hiI losesAll; rw [List.length_map, ← hn.out])
                    rw [HQZ.out]
                    clear hii
                    go_wp2
                    go_ret
                    exact ⟨rfl, E0.out.trans EX.out⟩
              · have a0 := hz rfl
                clear hz hle2
                have e3 : (0 == pence) = false := by rw [beq_eq_false_iff_ne]; intro h; exact e1 (a0.trans h)
                go_wp2_with fail
                refine (loses_any c house ⟨lo, hi⟩ _ _ _ (HT.out.ext E0.out) (HH.out.ext E0.out) (HS.out.ext E0.out) (by have := HN.out; omega)).mono ?_
                rintro e w9 ⟨⟨v31, rfl, hu⟩, hE⟩
                rw [HLE2.out]
                rw [HLL2.out] at hu
                have HSZ := Lib.hid (show hiI (losesAll c house ⟨lo, hi⟩) = pence by have := HSM.out; omega)
                replace E0 := Lib.hid (E0.out.trans hE)
                have LM := Lib.hid hu
                obtain ⟨A8, n8, c8, rfl, hn8, -, -⟩ := LM.out.form
                have e8 : kk = n8 := by have := hn.out; have := hn8.out; unfold losesAll at this; rw [List.length_map] at this; omega
                subst e8
                clear hE hu t0 t1 hn8
                have HZ3 := Lib.hid (show hiTo (losesAll c house ⟨lo, hi⟩) 0 = 0 by simp [hiTo])
                go_wp2
                go_loopg [33, 250] kk (fun gg q s wr => ∃ ii : Nat, ii ≤ kk ∧ kk - ii ≤ gg ∧ s = .int .i64 ii ∧ q = .int .i64 (hiTo (losesAll c house ⟨lo, hi⟩) ii) ∧ Aside (Ext w9 wr))
                case atStart => exact ⟨0, Nat.zero_le _, by omega, rfl, by rw [HZ3.out], Ext.refl _⟩
                case round =>
                  obtain ⟨ii, hle, hm2, rfl, rfl, EX⟩ := hrel
                  have EX := Lib.hid EX.out
                  by_cases hlt : ii < kk
                  · have hltz : (ii : Int) < (kk : Int) := by omega
                    obtain ⟨bl, fl, sp, rfl, hsp, -, hcl⟩ := LM.out.at_ hlt
                    obtain ⟨slo, shi⟩ := sp
                    have hbd := hiTo_bd (l := losesAll c house ⟨lo, hi⟩) (B := 90000000) (by decide) (fun x hx => by
                      obtain ⟨h, -, rfl⟩ := List.mem_map.1 hx
                      exact loseS_bd HR.out HN.out HPR.out) ii
                    have hbs : 0 ≤ shi ∧ shi ≤ 90000000 := by
                      have hm := List.mem_of_getElem? hsp
                      obtain ⟨h, -, e⟩ := List.mem_map.1 hm
                      have := loseS_bd (st := house) (h := h) HR.out HN.out HPR.out
                      rw [e] at this
                      exact this
                    have HST := Lib.hid (hiTo_succ hsp)
                    generalize hiTo (losesAll c house ⟨lo, hi⟩) ii = ql at *
                    have hwa : IntKind.i64.wrap (ql + shi) = ql + shi := by
                      have h6 := HR.out.h6
                      have h7 := hn.out
                      rw [IntKind.wrap_i64]; omega
                    have q1 : ¬ shi < 0 := by omega
                    have q2 : ¬ 100000000 < shi := by omega
                    have d0 : wr.cell? ⟨bl, fl + ii * 2, none⟩ = some (.int .i64 slo) := by simpa using hcl wr EX.out 0 _ rfl
                    have d1 : wr.cell? ⟨bl, fl + ii * 2 + 1, none⟩ = some (.int .i64 shi) := by simpa using hcl wr EX.out 1 _ rfl
                    clear hsp hcl hbd hbs
                    go_wp2
                    go_roundg (kk - (ii + 1))
                    case measure => omega
                    case rel => exact ⟨ii + 1, by omega, by omega, by simp, by rw [HST.out], EX.out.alloc _⟩
                  · have hii : ii = kk := by omega
                    have HQZ := Lib.hid (show hiTo (losesAll c house ⟨lo, hi⟩) ii = pence by
                      rw [← HSZ.out, hii]; unfold hiI losesAll; rw [List.length_map, ← hn.out])
                    rw [HQZ.out]
                    clear hii
                    go_wp2
                    go_ret
                    exact ⟨rfl, E0.out.trans EX.out⟩
              · have a1 := hle2 e1
                clear hz hle2
                go_wp2_with fail
                refine (loses_any c house ⟨lo, hi⟩ _ _ _ (HT.out.ext E0.out) (HH.out.ext E0.out) (HS.out.ext E0.out) (by have := HN.out; omega)).mono ?_
                rintro e w9 ⟨⟨v31, rfl, hu⟩, hE⟩
                rw [HLE2.out]
                rw [HLL2.out] at hu
                have HSZ := Lib.hid (show hiI (losesAll c house ⟨lo, hi⟩) = pence by have := HSM.out; omega)
                replace E0 := Lib.hid (E0.out.trans hE)
                have LM := Lib.hid hu
                obtain ⟨A8, n8, c8, rfl, hn8, -, -⟩ := LM.out.form
                have e8 : kk = n8 := by have := hn.out; have := hn8.out; unfold losesAll at this; rw [List.length_map] at this; omega
                subst e8
                clear hE hu t0 t1 hn8
                have HZ3 := Lib.hid (show hiTo (losesAll c house ⟨lo, hi⟩) 0 = 0 by simp [hiTo])
                go_wp2
                go_loopg [33, 250] kk (fun gg q s wr => ∃ ii : Nat, ii ≤ kk ∧ kk - ii ≤ gg ∧ s = .int .i64 ii ∧ q = .int .i64 (hiTo (losesAll c house ⟨lo, hi⟩) ii) ∧ Aside (Ext w9 wr))
                case atStart => exact ⟨0, Nat.zero_le _, by omega, rfl, by rw [HZ3.out], Ext.refl _⟩
                case round =>
                  obtain ⟨ii, hle, hm2, rfl, rfl, EX⟩ := hrel
                  have EX := Lib.hid EX.out
                  by_cases hlt : ii < kk
                  · have hltz : (ii : Int) < (kk : Int) := by omega
                    obtain ⟨bl, fl, sp, rfl, hsp, -, hcl⟩ := LM.out.at_ hlt
                    obtain ⟨slo, shi⟩ := sp
                    have hbd := hiTo_bd (l := losesAll c house ⟨lo, hi⟩) (B := 90000000) (by decide) (fun x hx => by
                      obtain ⟨h, -, rfl⟩ := List.mem_map.1 hx
                      exact loseS_bd HR.out HN.out HPR.out) ii
                    have hbs : 0 ≤ shi ∧ shi ≤ 90000000 := by
                      have hm := List.mem_of_getElem? hsp
                      obtain ⟨h, -, e⟩ := List.mem_map.1 hm
                      have := loseS_bd (st := house) (h := h) HR.out HN.out HPR.out
                      rw [e] at this
                      exact this
                    have HST := Lib.hid (hiTo_succ hsp)
                    generalize hiTo (losesAll c house ⟨lo, hi⟩) ii = ql at *
                    have hwa : IntKind.i64.wrap (ql + shi) = ql + shi := by
                      have h6 := HR.out.h6
                      have h7 := hn.out
                      rw [IntKind.wrap_i64]; omega
                    have q1 : ¬ shi < 0 := by omega
                    have q2 : ¬ 100000000 < shi := by omega
                    have d0 : wr.cell? ⟨bl, fl + ii * 2, none⟩ = some (.int .i64 slo) := by simpa using hcl wr EX.out 0 _ rfl
                    have d1 : wr.cell? ⟨bl, fl + ii * 2 + 1, none⟩ = some (.int .i64 shi) := by simpa using hcl wr EX.out 1 _ rfl
                    clear hsp hcl hbd hbs
                    go_wp2
                    go_roundg (kk - (ii + 1))
                    case measure => omega
                    case rel => exact ⟨ii + 1, by omega, by omega, by simp, by rw [HST.out], EX.out.alloc _⟩
                  · have hii : ii = kk := by omega
                    have HQZ := Lib.hid (show hiTo (losesAll c house ⟨lo, hi⟩) ii = pence by
                      rw [← HSZ.out, hii]; unfold hiI losesAll; rw [List.length_map, ← hn.out])
                    rw [HQZ.out]
                    clear hii
                    go_wp2
                    go_ret
                    exact ⟨rfl, E0.out.trans EX.out⟩
              · clear hz hle2
                have e3 : (al == pence) = false := by rw [beq_eq_false_iff_ne]; exact e1
                go_wp2_with fail
                refine (loses_any c house ⟨lo, hi⟩ _ _ _ (HT.out.ext E0.out) (HH.out.ext E0.out) (HS.out.ext E0.out) (by have := HN.out; omega)).mono ?_
                rintro e w9 ⟨⟨v31, rfl, hu⟩, hE⟩
                rw [HLE2.out]
                rw [HLL2.out] at hu
                have HSZ := Lib.hid (show hiI (losesAll c house ⟨lo, hi⟩) = pence by have := HSM.out; omega)
                replace E0 := Lib.hid (E0.out.trans hE)
                have LM := Lib.hid hu
                obtain ⟨A8, n8, c8, rfl, hn8, -, -⟩ := LM.out.form
                have e8 : kk = n8 := by have := hn.out; have := hn8.out; unfold losesAll at this; rw [List.length_map] at this; omega
                subst e8
                clear hE hu t0 t1 hn8
                have HZ3 := Lib.hid (show hiTo (losesAll c house ⟨lo, hi⟩) 0 = 0 by simp [hiTo])
                go_wp2
                go_loopg [33, 250] kk (fun gg q s wr => ∃ ii : Nat, ii ≤ kk ∧ kk - ii ≤ gg ∧ s = .int .i64 ii ∧ q = .int .i64 (hiTo (losesAll c house ⟨lo, hi⟩) ii) ∧ Aside (Ext w9 wr))
                case atStart => exact ⟨0, Nat.zero_le _, by omega, rfl, by rw [HZ3.out], Ext.refl _⟩
                case round =>
                  obtain ⟨ii, hle, hm2, rfl, rfl, EX⟩ := hrel
                  have EX := Lib.hid EX.out
                  by_cases hlt : ii < kk
                  · have hltz : (ii : Int) < (kk : Int) := by omega
                    obtain ⟨bl, fl, sp, rfl, hsp, -, hcl⟩ := LM.out.at_ hlt
                    obtain ⟨slo, shi⟩ := sp
                    have hbd := hiTo_bd (l := losesAll c house ⟨lo, hi⟩) (B := 90000000) (by decide) (fun x hx => by
                      obtain ⟨h, -, rfl⟩ := List.mem_map.1 hx
                      exact loseS_bd HR.out HN.out HPR.out) ii
                    have hbs : 0 ≤ shi ∧ shi ≤ 90000000 := by
                      have hm := List.mem_of_getElem? hsp
                      obtain ⟨h, -, e⟩ := List.mem_map.1 hm
                      have := loseS_bd (st := house) (h := h) HR.out HN.out HPR.out
                      rw [e] at this
                      exact this
                    have HST := Lib.hid (hiTo_succ hsp)
                    generalize hiTo (losesAll c house ⟨lo, hi⟩) ii = ql at *
                    have hwa : IntKind.i64.wrap (ql + shi) = ql + shi := by
                      have h6 := HR.out.h6
                      have h7 := hn.out
                      rw [IntKind.wrap_i64]; omega
                    have q1 : ¬ shi < 0 := by omega
                    have q2 : ¬ 100000000 < shi := by omega
                    have d0 : wr.cell? ⟨bl, fl + ii * 2, none⟩ = some (.int .i64 slo) := by simpa using hcl wr EX.out 0 _ rfl
                    have d1 : wr.cell? ⟨bl, fl + ii * 2 + 1, none⟩ = some (.int .i64 shi) := by simpa using hcl wr EX.out 1 _ rfl
                    clear hsp hcl hbd hbs
                    go_wp2
                    go_roundg (kk - (ii + 1))
                    case measure => omega
                    case rel => exact ⟨ii + 1, by omega, by omega, by simp, by rw [HST.out], EX.out.alloc _⟩
                  · have hii : ii = kk := by omega
                    have HQZ := Lib.hid (show hiTo (losesAll c house ⟨lo, hi⟩) ii = pence by
                      rw [← HSZ.out, hii]; unfold hiI losesAll; rw [List.length_map, ← hn.out])
                    rw [HQZ.out]
                    clear hii
                    go_wp2
                    go_ret
                    exact ⟨rfl, E0.out.trans EX.out⟩
end Go.Proofs.YtafdbgielmlihaaDoor
