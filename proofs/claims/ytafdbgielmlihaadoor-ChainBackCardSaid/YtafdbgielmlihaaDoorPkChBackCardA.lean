/- The place of a sale by its number. -/
import Derived.Test.YtafdbgielmlihaaDoorPkChClosedCardC
import Derived.Test.YtafdbgielmlihaaDoorPkChClosedCardN
import Derived.Test.YtafdbgielmlihaaDoorPkChClosedCardT
import Derived.Test.YtafdbgielmlihaaDoorPkChStruckCardA
import Derived.Test.YtafdbgielmlihaaDoorPkChClosedCardH
import Derived.Test.YtafdbgielmlihaaDoorPkChStruckCardC
import Derived.Test.YtafdbgielmlihaaDoorPkChStruckCardB
namespace Go.Proofs.YtafdbgielmlihaaDoor
open Go.RowKit Go.Shelf Go.Lib
set_option maxRecDepth 100000
set_option linter.unusedSimpArgs false

set_option maxHeartbeats 400000 in
theorem saleAt_any (c : Chn) (id : Int) (hv sv : Value) (w : World) (hh : SlI w hv c.houses) (hs : SlL w sv c.sales) :
    Calls Tryd.prog 69 #[valC hv sv, .int .i64 id] w fun e w' => e = .returned (.int .i64 (saleI c id)) ∧ Ext w w' := by
  have HS := Lib.hid hs
  obtain ⟨A2, n2, cp2, rfl, hn2, hlc2, hcm2⟩ := hh.form
  obtain ⟨A, n, cp, rfl, hn, hlc, hcm⟩ := hs.form
  clear hh hs
  go_enter Tryd.func69, Tryd.ntmps69
  go_wp2
  go_loopg [5] n (fun gg s wr => ∃ kk : Nat, kk ≤ n ∧ n - kk ≤ gg ∧ s = .int .i64 kk ∧ Aside (Ext (w.alloc (.cells #[.slice A2 n2 cp2, .slice A n cp] 25)) wr) ∧ Aside (∀ j (y : Sale), j < kk → c.sales[j]? = some y → decide (y.number = id) = false))
  case atStart => exact ⟨0, Nat.zero_le _, by omega, rfl, Ext.refl _, fun j y hj => absurd hj (Nat.not_lt_zero _)⟩
  case round =>
    obtain ⟨kk, hkk, hg, rfl, BW, FA⟩ := hrel
    obtain ⟨hc, hf, hz, -⟩ := BW.out.use
    simp at hz
    have hz1 : w.heap.size < wr.heap.size := by omega
    by_cases hlt : kk < n
    · have hltz : (kk : Int) < (n : Int) := by omega
      obtain ⟨b, off, y, rfl, hx, hb, hcell⟩ := HS.out.at_ hlt
      obtain ⟨c0, -⟩ := SlL.cells hcell ((Ext.al _ _).trans BW.out)
      have HX := Lib.hid hx; clear hx hcell hb
      by_cases hq : y.number = id
      · have HQ := Lib.hid (show decide (y.number = id) = true by simp [hq])
        go_wp2
        go_ret
        exact ⟨by unfold saleI; rw [idxF_some _ _ kk y HX.out HQ.out FA.out]; rfl, (Ext.al _ _).trans BW.out⟩
      · have HQ := Lib.hid (show decide (y.number = id) = false by simp [hq])
        go_wp2
        go_roundg (n - (kk + 1))
        case measure => omega
        case rel => exact ⟨kk + 1, by omega, by omega, by simp, BW.out, fun j z hj hz => by
          rcases Nat.lt_succ_iff_lt_or_eq.1 hj with h | rfl
          · exact FA.out j z h hz
          · rw [HX.out] at hz; cases hz; exact HQ.out⟩
    · have HE := Lib.hid (show kk = n by omega)
      go_wp2
      go_ret
      exact ⟨by unfold saleI; rw [idxF_none _ _ (fun x hx => by obtain ⟨j, hj⟩ := List.getElem?_of_mem hx; exact FA.out j x (by have := (List.getElem?_eq_some_iff.1 hj).1; have := HE.out; have := hn.out; omega) hj)]; rfl, (Ext.al _ _).trans BW.out⟩

end Go.Proofs.YtafdbgielmlihaaDoor
/- The law ChainBack: the walk. -/
namespace Go.Proofs.YtafdbgielmlihaaDoor
open Go.RowKit Go.Shelf Go.Lib
set_option maxRecDepth 100000
set_option linter.unusedSimpArgs false

def FreshLB (B : Nat) (v : Value) (W : World) : Prop := ∃ g, v = .pointer (some ⟨g, 0, none⟩) ∧ B ≤ g ∧ Blk W g 68 #[.int .i64 0, .int .i64 0, .int .i64 0, .int .i64 0, .int .i64 0]
theorem FreshLB.ext {B : Nat} {v : Value} {W W' : World} (h : FreshLB B v W) (e : Ext W W') : FreshLB B v W' := by
  obtain ⟨g, h1, h2, h3⟩ := h; exact ⟨g, h1, h2, h3.ext e⟩
theorem putE_of (C : Chn) {E : Int} {D : Chn} {w : World} {e : Ending} {w' : World} (h : PutP E D w e w') (hE : E = 0) (hD : D = C) : ∃ v, e = .returned (.tuple #[v, .int .i64 0]) ∧ TwinC C w.heap.size v w' ∧ Ext w w' := by
  subst hE hD
  obtain ⟨⟨v, h1, h2⟩, h3⟩ := h
  exact ⟨v, h1, h2, h3⟩
theorem next_ne {n i : Nat} {q : Int} (hi : i < n) (hq : 0 ≤ q ∧ q < (n : Int) - 1) : ∃ k : Nat, ((i : Int) + 1 + q).tmod (n : Int) = k ∧ k < n ∧ k ≠ i := by
  have hn : (0 : Int) < n := by omega
  rw [Int.tmod_eq_emod_of_nonneg (by omega)]
  by_cases h : (i : Int) + 1 + q < n
  · refine ⟨((i : Int) + 1 + q).toNat, ?_, by omega, by omega⟩
    rw [Int.emod_eq_of_lt (by omega) h]
    omega
  · refine ⟨((i : Int) + 1 + q - n).toNat, ?_, by omega, by omega⟩
    have e : (i : Int) + 1 + q = ((i : Int) + 1 + q - n) + n := by omega
    rw [e, Int.add_emod_right, Int.emod_eq_of_lt (by omega) (by omega)]
    omega
theorem free_snoc : ∀ (l : List Sale) (n : Int) (k : Nat) (x : Sale), l[k]? = some x → freeTo (l.take (k + 1)) n = if x.number = freeTo (l.take k) n then freeTo (l.take k) n + 1 else freeTo (l.take k) n
  | [], _, _, _, h => by simp at h
  | y :: l, n, 0, x, h => by
    simp at h
    subst h
    simp [freeTo]
  | y :: l, n, k + 1, x, h => by
    rw [List.take_succ_cons, List.take_succ_cons, freeTo, freeTo]
    exact free_snoc l _ k x (by simpa using h)
theorem free_any (c : Chn) (hv sv : Value) (w : World) (hh : SlI w hv c.houses) (hs : SlL w sv c.sales) (hl : c.sales.length ≤ 1000) :
    Calls Tryd.prog 68 #[valC hv sv] w fun e w' => e = .returned (.int .i64 (freeTo c.sales 1)) ∧ Ext w w' := by
  have HS := Lib.hid hs; have HL := Lib.hid hl
  obtain ⟨A, n, cp, rfl, hn, hlc, hcm⟩ := hh.form
  obtain ⟨A2, n2, cp2, rfl, hn2, hlc2, hcm2⟩ := hs.form
  have B0 := Lib.hid (show Blk (w.alloc (.cells #[.slice A n cp, .slice A2 n2 cp2] 25)) w.heap.size 25 #[.slice A n cp, .slice A2 n2 cp2] from Blk.new _ _ _)
  clear hh hs hl
  have hb : ∀ k : Nat, 1 ≤ freeTo (c.sales.take k) 1 ∧ freeTo (c.sales.take k) 1 ≤ 1 + k := fun k => by
    have : ∀ (l : List Sale) (n : Int), n ≤ freeTo l n ∧ freeTo l n ≤ n + l.length := by
      intro l
      induction l with
      | nil => intro n; simp [freeTo]
      | cons x l ih =>
        intro n
        rw [freeTo]
        have := ih (if x.number = n then n + 1 else n)
        simp only [List.length_cons]
        split at this <;> rename_i h <;> simp only [h, if_true, if_false] <;> omega
    have h1 := this (c.sales.take k) 1
    have h2 : (c.sales.take k).length ≤ k := by rw [List.length_take]; omega
    omega
  have HB := Lib.hid hb
  clear hb
  go_enter Tryd.func68, Tryd.ntmps68
  go_wp2
  go_loopg [3, 9] n2 (fun gg q s wr => ∃ kk : Nat, kk ≤ n2 ∧ n2 - kk ≤ gg ∧ s = .int .i64 kk ∧ q = .int .i64 (freeTo (c.sales.take kk) 1) ∧ Aside (Ext (w.alloc (.cells #[.slice A n cp, .slice A2 n2 cp2] 25)) wr))
  case atStart => exact ⟨0, Nat.zero_le _, by omega, rfl, rfl, Ext.refl _⟩
  case round =>
    obtain ⟨kk, hle, hm2, rfl, rfl, EX⟩ := hrel
    have EX := Lib.hid EX.out
    have EW := Lib.hid ((Ext.al w (.cells #[.slice A n cp, .slice A2 n2 cp2] 25)).trans EX.out)
    by_cases hlt : kk < n2
    · have hltz : (kk : Int) < (n2 : Int) := by omega
      obtain ⟨b, off, x, rfl, hx, hbd, hcell⟩ := HS.out.at_ hlt
      obtain ⟨c0, c1, c2, c3, c4⟩ := SlL.cells hcell EW.out
      have HST := Lib.hid (free_snoc c.sales 1 kk x hx)
      have hbk := HB.out kk
      generalize freeTo (c.sales.take kk) 1 = f at *
      have hwf : IntKind.i64.wrap (f + 1) = f + 1 := by rw [IntKind.wrap_i64]; have := hn2.out; have := HL.out; omega
      clear hx hcell hbk
      by_cases hq : x.number = f
      · have q1 : (x.number == f) = true := by simp [hq]
        have HQ := Lib.hid hq
        clear hq
        go_wp2
        go_roundg (n2 - (kk + 1))
        case measure => omega
        case rel => exact ⟨kk + 1, by omega, by omega, by simp, by rw [HST.out, if_pos HQ.out], EX.out.alloc _⟩
      · have q1 : (x.number == f) = false := by simp [hq]
        have HQ := Lib.hid hq
        clear hq
        go_wp2
        go_roundg (n2 - (kk + 1))
        case measure => omega
        case rel => exact ⟨kk + 1, by omega, by omega, by simp, by rw [HST.out, if_neg HQ.out], EX.out.alloc _⟩
    · have HE := Lib.hid (show freeTo (c.sales.take kk) 1 = freeTo c.sales 1 by rw [List.take_of_length_le (by have := hn2.out; omega)])
      rw [HE.out]
      go_wp2
      go_ret
      exact ⟨rfl, EW.out⟩
/-- A free number's sale can be put. -/
theorem put_free {c : Chn} (h : checkP c = true) (hl : c.sales.length + 1 ≤ 10) {s b k p : Int} (hs : s ∈ c.houses) (hb : b ∈ c.houses) (hne : s ≠ b) (hk : 1 ≤ k ∧ k ≤ 9) (hp : 0 ≤ p ∧ p ≤ 1000000) :
    putE c ⟨freeTo c.sales 1, s, b, k, p⟩ = 0 ∧ putC c ⟨freeTo c.sales 1, s, b, k, p⟩ = withC c ⟨freeTo c.sales 1, s, b, k, p⟩ ∧ checkP (withC c ⟨freeTo c.sales 1, s, b, k, p⟩) = true := by
  have hR := (check_right h).1
  have hr : rightP c = true := by unfold checkP at h; rw [Bool.and_eq_true] at h; exact h.2
  obtain ⟨f1, f2, f3⟩ := free_ok hR.sr (n := 1) (by rfl)
  have hw : rightP (withC c ⟨freeTo c.sales 1, s, b, k, p⟩) = true := with_right hr (by show 0 < freeTo c.sales 1 ∧ freeTo c.sales 1 ≤ 9999; omega) f3 (by
    unfold badS
    rw [hasI_iff.2 hs, hasI_iff.2 hb, inB_iff.2 hk, inB_iff.2 hp]
    simp [hne])
  have e0 : putE c ⟨freeTo c.sales 1, s, b, k, p⟩ = 0 := by unfold putE; rw [if_pos h, if_neg (by omega), if_pos hw]
  refine ⟨e0, by unfold putC; rw [if_pos e0], ?_⟩
  unfold checkP
  rw [hw, withC_len]
  simp
  omega
set_option maxHeartbeats 8000000 in
theorem backLaw_of (hA : AliveT) (c : Chn) (u0 u1 u2 u3 : Int) (hv sv : Value) (w : World) (hT : Tab w) (hh : SlI w hv c.houses) (hs : SlL w sv c.sales) (hu : (0 ≤ u0 ∧ u0 ≤ 255) ∧ (0 ≤ u1 ∧ u1 ≤ 255) ∧ (0 ≤ u2 ∧ u2 ≤ 255) ∧ (0 ≤ u3 ∧ u3 ≤ 255)) :
    Calls Tryd.prog 15 #[valC hv sv, .agg #[.int .u8 u0, .int .u8 u1, .int .u8 u2, .int .u8 u3]] w fun e w' => e = .returned (.bool true) ∧ Ext w w' := by
  have HT := Lib.hid hT; have HH := Lib.hid hh; have HS := Lib.hid hs
  obtain ⟨A, n, cp, rfl, hn, hlc, hcm⟩ := hh.form
  obtain ⟨A2, n2, cp2, rfl, hn2, hlc2, hcm2⟩ := hs.form
  have HU := Lib.hid hu
  clear hh hs hT hu
  go_enter Tryd.func15, Tryd.ntmps15
  go_wp2_with fail
  generalize hw0 : (w.alloc (.cells #[.slice A n cp, .slice A2 n2 cp2] 25)).alloc (.cells #[.int .u8 u0, .int .u8 u1, .int .u8 u2, .int .u8 u3] 105) = w0
  have E0 := Lib.hid (show Ext w w0 from hw0 ▸ (Ext.al _ _).alloc _)
  have B0 := Lib.hid (show Blk w0 w.heap.size 25 #[.slice A n cp, .slice A2 n2 cp2] from hw0 ▸ (Blk.new _ _ _).alloc _)
  have BU := Lib.hid (show Blk w0 (w.heap.size + 1) 105 #[.int .u8 u0, .int .u8 u1, .int .u8 u2, .int .u8 u3] from hw0 ▸ Blk.at_ (by simp))
  clear hw0
  refine (hA _ (HT.out.ext E0.out)).mono ?_
  rintro e w1 ⟨rfl, hE⟩
  replace E0 := Lib.hid (E0.out.trans hE); replace B0 := Lib.hid (B0.out.ext hE); replace BU := Lib.hid (BU.out.ext hE); clear hE
  have t0 := B0.out.c2
  go_wp2_with fail
  refine (ready_any c _ _ _ (HH.out.ext E0.out) (HS.out.ext E0.out)).mono ?_
  rintro e w2 ⟨rfl, hE⟩
  replace E0 := Lib.hid (E0.out.trans hE); replace B0 := Lib.hid (B0.out.ext hE); replace BU := Lib.hid (BU.out.ext hE); clear hE t0
  cases hc : checkP c with
  | false =>
    clear hc
    go_wp2
    go_ret
    exact ⟨rfl, E0.out⟩
  | true =>
    have HC := Lib.hid hc; clear hc
    have HR := Lib.hid (check_right HC.out).1
    have HN := Lib.hid (check_right HC.out).2
    have t0 := B0.out.c2
    have hw2 : IntKind.i64.wrap ((n2 : Int) + 2) = (n2 : Int) + 2 := by rw [IntKind.wrap_i64]; have := hn2.out; have := HN.out; omega
    by_cases h0 : (n : Int) < 2
    · go_wp2
      go_ret
      exact ⟨rfl, E0.out⟩
    · by_cases h1 : 10 < (n2 : Int) + 2
      · go_wp2
        go_ret
        exact ⟨rfl, E0.out⟩
      · have t1 := BU.out.c4
        have hnz : ¬ (n : Int) = 0 := by omega
        have hnz1 : ¬ (n : Int) - 1 = 0 := by omega
        have hnN : ¬ n = 0 := by omega
        obtain ⟨i, hi, hin⟩ := remz_nat HU.out.1.1 (show 0 < n by omega)
        obtain ⟨q, hq⟩ : ∃ q, u1.tmod ((n : Int) - 1) = q := ⟨_, rfl⟩
        have hqb := remz_int HU.out.2.1.1 (show (0 : Int) < (n : Int) - 1 by omega)
        rw [hq] at hqb
        obtain ⟨k, hk, hkn, hki⟩ := next_ne hin hqb
        have hn6 : n ≤ 6 := by have := hn.out; have := HR.out.h6; omega
        have v0 : IntKind.i64.wrap u0 = u0 := by rw [IntKind.wrap_i64]; have := HU.out; omega
        have v1 : IntKind.i64.wrap u1 = u1 := by rw [IntKind.wrap_i64]; have := HU.out; omega
        have v2 : IntKind.i64.wrap u2 = u2 := by rw [IntKind.wrap_i64]; have := HU.out; omega
        have v3 : IntKind.i64.wrap u3 = u3 := by rw [IntKind.wrap_i64]; have := HU.out; omega
        have v4 : IntKind.i64.wrap ((n : Int) - 1) = (n : Int) - 1 := by rw [IntKind.wrap_i64]; omega
        have v5 : IntKind.i64.wrap ((i : Int) + 1) = (i : Int) + 1 := by rw [IntKind.wrap_i64]; omega
        have v6 : IntKind.i64.wrap ((i : Int) + 1 + q) = (i : Int) + 1 + q := by rw [IntKind.wrap_i64]; omega
        have v7 : IntKind.i64.wrap q = q := by rw [IntKind.wrap_i64]; omega
        have v8 : IntKind.i64.wrap (k : Int) = (k : Int) := by rw [IntKind.wrap_i64]; omega
        have hiz : (i : Int) < (n : Int) := by omega
        have hkz : (k : Int) < (n : Int) := by omega
        go_wp2
        have m0 := fun W (h : Ext w2 W) => (B0.out.ext h).c2
        have m1 := fun W (h : Ext w2 W) => (BU.out.ext h).c4
        clear t0 t1
        refine wp_region_tame (fun W => Ext w2 W) (fun W W' => Ext W W') (by kernel_rfl) 199 rfl (by decide +kernel) (Ext.refl _).drew ?_
        repeat (apply tame_q rfl; (intro ρ W hC hr hD; (obtain ⟨hrc, hrg, hrf, hrs⟩ := hr); (simp [go_sem] at hD); go_simp; first | exact ⟨⟨hC, Ext.refl _⟩, rfl⟩ | exact ⟨⟨hC, RS.refl _⟩, rfl⟩ | exact rfl); simp only [List.nil_append, List.cons_append])
        refine tame_end_put rfl rfl (fun ρ W hC hr hF => ?_)
        simp [go_sem] at hF
        simp only [putF, hF, List.set_cons_succ, List.set_cons_zero]
        clear hF hr
        obtain ⟨w3, hw3⟩ : ∃ w3, w3 = W := ⟨_, rfl⟩
        subst hw3
        replace E0 := Lib.hid (E0.out.trans hC); replace B0 := Lib.hid (B0.out.ext hC); replace BU := Lib.hid (BU.out.ext hC)
        obtain ⟨ba, fa, hi', eH, hhi, -, hci⟩ := HH.out.at_ hin
        cases eH
        obtain ⟨bb, fb, hk', eH, hhk, -, hck⟩ := HH.out.at_ hkn
        cases eH
        obtain ⟨r, hr9⟩ : ∃ r, u2.tmod 9 = r := ⟨_, rfl⟩
        have hrb := remz_int HU.out.2.2.1.1 (show (0 : Int) < 9 by decide)
        rw [hr9] at hrb
        have v9 : IntKind.i64.wrap (1 + r) = 1 + r := by rw [IntKind.wrap_i64]; omega
        have v10 : IntKind.i64.wrap r = r := by rw [IntKind.wrap_i64]; omega
        have hne : hi' ≠ hk' := by
          intro e
          have hp := rising_pair HR.out.hr
          rw [List.pairwise_iff_getElem] at hp
          obtain ⟨z1, z2⟩ := List.getElem?_eq_some_iff.1 hhi
          obtain ⟨z3, z4⟩ := List.getElem?_eq_some_iff.1 hhk
          rcases Nat.lt_trichotomy i k with h | h | h
          · have := hp i k z1 z3 h; omega
          · exact hki h.symm
          · have := hp k i z3 z1 h; omega
        have hl1 : c.sales.length + 1 ≤ 10 := by have := hn2.out; omega
        have m0 := fun W (h : Ext w3 W) => (B0.out.ext h).c2
        have m1 := fun W (h : Ext w3 W) => (BU.out.ext h).c4
        have m2 := fun W (h : Ext w3 W) => (show W.cell? ⟨ba, fa + i, none⟩ = some (.int .i64 hi') by simpa using hci W (E0.out.trans h) 0 _ rfl)
        have m3 := fun W (h : Ext w3 W) => (show W.cell? ⟨ba, fa + k, none⟩ = some (.int .i64 hk') by simpa using hck W (E0.out.trans h) 0 _ rfl)
        clear hC hi hq hk v0 v1 v4 v5 v6 v7 v8 hci hck
        obtain ⟨f, hf⟩ : ∃ f, freeTo c.sales 1 = f := ⟨_, rfl⟩
        have HF := Lib.hid hf
        obtain ⟨pe, pc, pk⟩ := put_free HC.out hl1 (List.mem_of_getElem? hhi) (List.mem_of_getElem? hhk) hne (k := 1 + r) (p := u3) (by omega) (by have := HU.out; omega)
        rw [hf] at pe pc pk
        obtain ⟨C1, hC1⟩ : ∃ C1, withC c ⟨f, hi', hk', 1 + r, u3⟩ = C1 := ⟨_, rfl⟩
        rw [hC1] at pc pk
        have c1h : C1.houses = c.houses := by rw [← hC1]; rfl
        have c1l : C1.sales.length = c.sales.length + 1 := by rw [← hC1, withC_len]
        obtain ⟨f2, hf2⟩ : ∃ f2, freeTo C1.sales 1 = f2 := ⟨_, rfl⟩
        obtain ⟨qe, qc, qk⟩ := put_free pk (by have := hn2.out; omega) (s := hk') (b := hi') (by rw [c1h]; exact List.mem_of_getElem? hhk) (by rw [c1h]; exact List.mem_of_getElem? hhi) (Ne.symm hne) (k := 1 + r) (p := u3) (by omega) (by have := HU.out; omega)
        rw [hf2] at qe qc qk
        obtain ⟨C2, hC2⟩ : ∃ C2, withC C1 ⟨f2, hk', hi', 1 + r, u3⟩ = C2 := ⟨_, rfl⟩
        rw [hC2] at qc qk
        have c2l : C2.sales.length = c.sales.length + 2 := by rw [← hC2, withC_len, c1l]
        have HPE := Lib.hid pe; have HPC := Lib.hid pc; have HPK := Lib.hid pk; have HC1 := Lib.hid hC1; have HC1H := Lib.hid c1h; have HC1L := Lib.hid c1l
        have HQE := Lib.hid qe; have HQC := Lib.hid qc; have HQK := Lib.hid qk; have HC2 := Lib.hid hC2; have HF2 := Lib.hid hf2; have HC2L := Lib.hid c2l
        have HRB := Lib.hid hrb
        clear pe pc pk hC1 c1h c1l qe qc qk hC2 hf hf2 c2l hhi hhk hne hl1 hrb hqb hki
        go_wp2
        refine wp_region_tame_cut (fun W => Ext w3 W) (fun W W' => Ext W W') (by kernel_rfl) 199 rfl _ rfl (by decide +kernel) (by decide +kernel) (by decide +kernel) rfl (Ext.refl _).drew ?_
        simp only [List.dropLast]
        repeat (apply tame_q rfl; (intro ρ W hC hr hD; (obtain ⟨hrc, hrg, hrf, hrs⟩ := hr); (simp [go_sem] at hD); go_simp; first | exact ⟨⟨hC, Ext.refl _⟩, rfl⟩ | exact ⟨⟨hC, RS.refl _⟩, rfl⟩ | exact rfl); simp only [List.nil_append, List.cons_append])
        apply tame_q rfl
        · intro ρ W hC hr hD
          obtain ⟨hrc, hrg, hrf, hrs⟩ := hr
          simp [go_sem] at hD
          go_simp
          refine (free_any c _ _ _ (HH.out.ext (E0.out.trans hC)) (HS.out.ext (E0.out.trans hC)) (by have := HN.out; omega)).mono ?_
          rintro e w' ⟨rfl, hE⟩
          rw [HF.out]
          exact ⟨_, rfl, ⟨hC.trans hE, hE⟩, rfl⟩
        simp only [List.nil_append, List.cons_append]
        repeat (apply tame_q rfl; (intro ρ W hC hr hD; (obtain ⟨hrc, hrg, hrf, hrs⟩ := hr); (simp [go_sem] at hD); go_simp; first | exact ⟨⟨hC, Ext.refl _⟩, rfl⟩ | exact ⟨⟨hC, RS.refl _⟩, rfl⟩ | exact rfl); simp only [List.nil_append, List.cons_append])
        apply tame_q rfl
        · intro ρ W hC hr hD
          obtain ⟨hrc, hrg, hrf, hrs⟩ := hr
          simp [go_sem] at hD
          go_simp
          refine (sale_any f hi' hk' (1 + r) u3 _).mono ?_
          rintro e w' ⟨rfl, hE⟩
          exact ⟨_, rfl, ⟨hC.trans hE, hE⟩, rfl⟩
        simp only [List.nil_append, List.cons_append]
        repeat (apply tame_q rfl; (intro ρ W hC hr hD; (obtain ⟨hrc, hrg, hrf, hrs⟩ := hr); (simp [go_sem] at hD); go_simp; first | exact ⟨⟨hC, Ext.refl _⟩, rfl⟩ | exact ⟨⟨hC, RS.refl _⟩, rfl⟩ | exact rfl); simp only [List.nil_append, List.cons_append])
        apply tame_v rfl (FreshLB w3.heap.size) (fun v W W' _ hE h => h.ext hE)
        · intro ρ W hC hr hD
          obtain ⟨hrc, hrg, hrf, hrs⟩ := hr
          simp [go_sem] at hD
          go_simp
          exact ⟨⟨hC.alloc _, Ext.al _ _⟩, ⟨_, rfl, hC.size, Blk.new _ _ _⟩⟩
        simp only [List.nil_append, List.cons_append]
        refine tame_end_put rfl rfl (fun ρ W hC hr hF => ?_)
        simp [go_sem] at hF
        obtain ⟨f1_, f2_, f3_, f4_, f5_, f6_, f7_, f8_, f9_, f10_, f11_, f12_, f13_, f14_, f15_, f16_, f17_, f18_, f19_, f20_, f21_, ⟨g8, ff, hg8, hB8⟩⟩ := hF
        simp only [putF, f1_, f2_, f3_, f4_, f5_, f6_, f7_, f8_, f9_, f10_, f11_, f12_, f13_, f14_, f15_, f16_, f17_, f18_, f19_, f20_, f21_, ff, List.set_cons_succ, List.set_cons_zero]
        clear f1_ f2_ f3_ f4_ f5_ f6_ f7_ f8_ f9_ f10_ f11_ f12_ f13_ f14_ f15_ f16_ f17_ f18_ f19_ f20_ f21_ ff hr
        replace E0 := Lib.hid (E0.out.trans hC); replace B0 := Lib.hid (B0.out.ext hC); replace BU := Lib.hid (BU.out.ext hC)
        have HB8 := Lib.hid hB8
        have HG8 := Lib.hid (show w.heap.size ≤ g8 ∧ w.heap.size ≠ g8 ∧ w.heap.size + 1 ≠ g8 by have := BU.out.lt; have := B0.out.lt; have h1 := hC.size; have h2 := m1 w3 (Ext.refl _); obtain ⟨-, -, -, -, -, h3⟩ := h2; omega)
        clear hC hB8 m0 m1 m2 m3 hg8
        refine wpList_storeB rfl rfl 68 (.tmp 8) (.tmp 89) rfl (n := 5) (by kernel_rfl) rfl rfl HB8.out rfl rfl (encL_1 ⟨f, hi', hk', 1 + r, u3⟩) ?_
        intro w4 hB4 hG
        have XB := Lib.hid (show Blk w4 g8 68 #[.int .i64 f, .int .i64 hi', .int .i64 hk', .int .i64 (1 + r), .int .i64 u3] from hB4)
        replace E0 := Lib.hid (ext_grownP E0.out hG HG8.out.1)
        replace B0 := Lib.hid (B0.out.grown hG (by intro e; injection e with e; exact HG8.out.2.1 e))
        replace BU := Lib.hid (BU.out.grown hG (by intro e; injection e with e; exact HG8.out.2.2 e))
        clear hB4 hG HB8
        have t0 := B0.out.c2
        have t8 := XB.out.c5
        go_wp2_with fail
        refine (put_any c ⟨f, hi', hk', 1 + r, u3⟩ _ _ _ (HT.out.ext E0.out) (HH.out.ext E0.out) (HS.out.ext E0.out) (by have := HR.out.h6; omega) (by have := HN.out; omega)).mono ?_
        intro e w5 hq
        obtain ⟨u, rfl, hu, hE⟩ := putE_of C1 hq HPE.out HPC.out
        obtain ⟨hy, sy, rfl, oy, py⟩ := hu
        replace E0 := Lib.hid (E0.out.trans hE); replace B0 := Lib.hid (B0.out.ext hE); replace BU := Lib.hid (BU.out.ext hE); replace XB := Lib.hid (XB.out.ext hE)
        have Y1 := Lib.hid (show SlI w5 hy C1.houses from oy.sl fun _ => rfl)
        have Y2 := Lib.hid (show SlL w5 sy C1.sales from py.sl fun _ => rfl)
        clear hq hE oy py t0 t8
        obtain ⟨Ay, ny, cy, rfl, -, -, -⟩ := Y1.out.form
        obtain ⟨By, my, dy, rfl, -, -, -⟩ := Y2.out.form
        go_wp2
        obtain ⟨w6, hw6⟩ : ∃ w6, w6 = w5.alloc (.cells #[.slice Ay ny cy, .slice By my dy] 25) := ⟨_, rfl⟩
        have YB := Lib.hid (show Blk w6 w5.heap.size 25 #[.slice Ay ny cy, .slice By my dy] from hw6 ▸ Blk.new _ _ _)
        have H56 := Lib.hid (show w5.heap.size < w6.heap.size by rw [hw6]; simp)
        replace E0 := Lib.hid (show Ext w w6 from hw6 ▸ E0.out.alloc _); replace B0 := Lib.hid (show Blk w6 w.heap.size 25 _ from hw6 ▸ B0.out.alloc _); replace BU := Lib.hid (show Blk w6 (w.heap.size + 1) 105 _ from hw6 ▸ BU.out.alloc _); replace XB := Lib.hid (show Blk w6 g8 68 _ from hw6 ▸ XB.out.alloc _)
        replace Y1 := Lib.hid (show SlI w6 _ _ from hw6 ▸ Y1.out.ext (Ext.al _ _)); replace Y2 := Lib.hid (show SlL w6 _ _ from hw6 ▸ Y2.out.ext (Ext.al _ _))
        rw [← hw6]
        clear hw6
        have m0 := fun W (h : Ext w6 W) => (YB.out.ext h).c2
        have m1 := fun W (h : Ext w6 W) => (BU.out.ext h).c4
        have m2 := fun W (h : Ext w6 W) => (XB.out.ext h).c5
        refine wp_region_tame_cut (fun W => Ext w6 W) (fun W W' => Ext W W') (by kernel_rfl) 199 rfl _ rfl (by decide +kernel) (by decide +kernel) (by decide +kernel) rfl (Ext.refl _).drew ?_
        simp only [List.dropLast]
        repeat (apply tame_q rfl; (intro ρ W hC hr hD; (obtain ⟨hrc, hrg, hrf, hrs⟩ := hr); (simp [go_sem] at hD); go_simp; first | exact ⟨⟨hC, Ext.refl _⟩, rfl⟩ | exact ⟨⟨hC, RS.refl _⟩, rfl⟩ | exact rfl); simp only [List.nil_append, List.cons_append])
        apply tame_q rfl
        · intro ρ W hC hr hD
          obtain ⟨hrc, hrg, hrf, hrs⟩ := hr
          simp [go_sem] at hD
          go_simp
          refine (free_any C1 _ _ _ (Y1.out.ext hC) (Y2.out.ext hC) (by have := HC1L.out; have := HN.out; omega)).mono ?_
          rintro e w' ⟨rfl, hE⟩
          rw [HF2.out]
          exact ⟨_, rfl, ⟨hC.trans hE, hE⟩, rfl⟩
        simp only [List.nil_append, List.cons_append]
        repeat (apply tame_q rfl; (intro ρ W hC hr hD; (obtain ⟨hrc, hrg, hrf, hrs⟩ := hr); (simp [go_sem] at hD); go_simp; first | exact ⟨⟨hC, Ext.refl _⟩, rfl⟩ | exact ⟨⟨hC, RS.refl _⟩, rfl⟩ | exact rfl); simp only [List.nil_append, List.cons_append])
        apply tame_q rfl
        · intro ρ W hC hr hD
          obtain ⟨hrc, hrg, hrf, hrs⟩ := hr
          simp [go_sem] at hD
          go_simp
          refine (sale_any f2 hk' hi' (1 + r) u3 _).mono ?_
          rintro e w' ⟨rfl, hE⟩
          exact ⟨_, rfl, ⟨hC.trans hE, hE⟩, rfl⟩
        simp only [List.nil_append, List.cons_append]
        repeat (apply tame_q rfl; (intro ρ W hC hr hD; (obtain ⟨hrc, hrg, hrf, hrs⟩ := hr); (simp [go_sem] at hD); go_simp; first | exact ⟨⟨hC, Ext.refl _⟩, rfl⟩ | exact ⟨⟨hC, RS.refl _⟩, rfl⟩ | exact rfl); simp only [List.nil_append, List.cons_append])
        apply tame_v rfl (FreshLB w6.heap.size) (fun v W W' _ hE h => h.ext hE)
        · intro ρ W hC hr hD
          obtain ⟨hrc, hrg, hrf, hrs⟩ := hr
          simp [go_sem] at hD
          go_simp
          exact ⟨⟨hC.alloc _, Ext.al _ _⟩, ⟨_, rfl, hC.size, Blk.new _ _ _⟩⟩
        simp only [List.nil_append, List.cons_append]
        refine tame_end_put rfl rfl (fun ρ W hC hr hF => ?_)
        simp [go_sem] at hF
        obtain ⟨e1_, e2_, e3_, e4_, e5_, e6_, e7_, e8_, e9_, e10_, e11_, e12_, ⟨g11, ff, hg11, hB11⟩⟩ := hF
        simp only [putF, e1_, e2_, e3_, e4_, e5_, e6_, e7_, e8_, e9_, e10_, e11_, e12_, ff, List.set_cons_succ, List.set_cons_zero]
        clear e1_ e2_ e3_ e4_ e5_ e6_ e7_ e8_ e9_ e10_ e11_ e12_ ff hr
        have HB11 := Lib.hid hB11
        have H67 := Lib.hid hC
        have HG11 := Lib.hid hg11
        clear hC hB11 m0 m1 m2 hg11 BU
        refine wpList_storeB rfl rfl 68 (.tmp 11) (.tmp 109) rfl (n := 5) (by kernel_rfl) rfl rfl HB11.out rfl rfl (encL_1 ⟨f2, hk', hi', 1 + r, u3⟩) ?_
        intro w8 hB11 hG
        have VB := Lib.hid (show Blk w8 g11 68 #[.int .i64 f2, .int .i64 hk', .int .i64 hi', .int .i64 (1 + r), .int .i64 u3] from hB11)
        have E68 := ext_grownP H67.out hG HG11.out
        replace E0 := Lib.hid (E0.out.trans E68); replace B0 := Lib.hid (B0.out.ext E68); replace XB := Lib.hid (XB.out.ext E68); replace YB := Lib.hid (YB.out.ext E68)
        replace Y1 := Lib.hid (Y1.out.ext E68); replace Y2 := Lib.hid (Y2.out.ext E68)
        clear E68 hB11 hG HB11 H67 HG11
        have t1 := YB.out.c2
        have t2 := VB.out.c5
        go_wp2_with fail
        clear t1 t2
        refine (put_any C1 ⟨f2, hk', hi', 1 + r, u3⟩ _ _ _ (HT.out.ext E0.out) Y1.out Y2.out (by have := HR.out.h6; have := HC1H.out; rw [this]; omega) (by have := HC1L.out; have := HN.out; omega)).mono ?_
        intro e w9 hq
        obtain ⟨u, rfl, hu, hE⟩ := putE_of C2 hq HQE.out HQC.out
        obtain ⟨hz, sz, rfl, oz, pz⟩ := hu
        replace E0 := Lib.hid (E0.out.trans hE); replace B0 := Lib.hid (B0.out.ext hE); replace XB := Lib.hid (XB.out.ext hE); replace YB := Lib.hid (YB.out.ext hE); replace VB := Lib.hid (VB.out.ext hE)
        replace Y1 := Lib.hid (Y1.out.ext hE); replace Y2 := Lib.hid (Y2.out.ext hE)
        have Z1 := Lib.hid (show SlI w9 hz C2.houses from oz.sl fun _ => rfl)
        have Z2 := Lib.hid (show SlL w9 sz C2.sales from pz.sl fun _ => rfl)
        clear hq hE oz pz
        obtain ⟨Az, nz, cz, rfl, -, -, -⟩ := Z1.out.form
        obtain ⟨Bz, mz, dz, rfl, hmz, -, -⟩ := Z2.out.form
        have HMZ := hmz
        clear hmz
        obtain ⟨l, hcl⟩ := closeOf_exists c
        obtain ⟨m, hcm1⟩ := closeOf_exists C1
        obtain ⟨o, hco⟩ := closeOf_exists C2
        have HCL := Lib.hid hcl; have HCM := Lib.hid hcm1; have HCO := Lib.hid hco
        clear hcl hcm1 hco
        have t0 := B0.out.c2
        go_wp2_with fail
        obtain ⟨wa, hwa⟩ : ∃ wa, wa = w9.alloc (.cells #[.slice Az nz cz, .slice Bz mz dz] 25) := ⟨_, rfl⟩
        have ZB := Lib.hid (show Blk wa w9.heap.size 25 #[.slice Az nz cz, .slice Bz mz dz] from hwa ▸ Blk.new _ _ _)
        have E9 := Lib.hid (show Ext w9 wa from hwa ▸ Ext.al _ _)
        rw [← hwa]
        clear hwa t0
        replace E0 := Lib.hid (E0.out.trans E9.out); replace B0 := Lib.hid (B0.out.ext E9.out); replace XB := Lib.hid (XB.out.ext E9.out); replace YB := Lib.hid (YB.out.ext E9.out); replace VB := Lib.hid (VB.out.ext E9.out)
        replace Y1 := Lib.hid (Y1.out.ext E9.out); replace Y2 := Lib.hid (Y2.out.ext E9.out); replace Z1 := Lib.hid (Z1.out.ext E9.out); replace Z2 := Lib.hid (Z2.out.ext E9.out)
        clear E9
        refine (close_any c l _ _ _ HCL.out (HT.out.ext E0.out) (HH.out.ext E0.out) (HS.out.ext E0.out) (by have := HN.out; omega)).mono ?_
        rintro e wb ⟨⟨v14, rfl, hu⟩, hE⟩
        rw [HC.out]
        dsimp only [errB, if_true]
        replace E0 := Lib.hid (E0.out.trans hE); replace B0 := Lib.hid (B0.out.ext hE); replace XB := Lib.hid (XB.out.ext hE); replace YB := Lib.hid (YB.out.ext hE); replace VB := Lib.hid (VB.out.ext hE); replace ZB := Lib.hid (ZB.out.ext hE)
        replace Y1 := Lib.hid (Y1.out.ext hE); replace Y2 := Lib.hid (Y2.out.ext hE); replace Z1 := Lib.hid (Z1.out.ext hE); replace Z2 := Lib.hid (Z2.out.ext hE)
        clear hE hu
        have t0 := YB.out.c2
        go_wp2_with fail
        clear t0
        refine (close_any C1 m _ _ _ HCM.out (HT.out.ext E0.out) Y1.out Y2.out (by have := HC1L.out; have := HN.out; omega)).mono ?_
        rintro e wc ⟨⟨v17, rfl, hu⟩, hE⟩
        rw [HPK.out]
        dsimp only [errB, if_true]
        replace E0 := Lib.hid (E0.out.trans hE); replace B0 := Lib.hid (B0.out.ext hE); replace XB := Lib.hid (XB.out.ext hE); replace VB := Lib.hid (VB.out.ext hE); replace ZB := Lib.hid (ZB.out.ext hE)
        replace Z1 := Lib.hid (Z1.out.ext hE); replace Z2 := Lib.hid (Z2.out.ext hE)
        clear hE hu Y1 Y2 YB
        have t0 := ZB.out.c2
        go_wp2_with fail
        clear t0
        refine (close_any C2 o _ _ _ HCO.out (HT.out.ext E0.out) Z1.out Z2.out (by have := HC2L.out; have := HN.out; omega)).mono ?_
        rintro e wd ⟨⟨v20, rfl, hu⟩, hE⟩
        rw [HQK.out]
        dsimp only [errB, if_true]
        replace E0 := Lib.hid (E0.out.trans hE); replace B0 := Lib.hid (B0.out.ext hE); replace XB := Lib.hid (XB.out.ext hE); replace VB := Lib.hid (VB.out.ext hE); replace ZB := Lib.hid (ZB.out.ext hE)
        replace Z1 := Lib.hid (Z1.out.ext hE); replace Z2 := Lib.hid (Z2.out.ext hE)
        have OM := Lib.hid hu
        clear hE hu
        obtain ⟨Ao, no, co, rfl, hno, -, -⟩ := OM.out.form
        have R2 := Lib.hid (check_right HQK.out).1
        have hOl := HCL.out.1 HC.out
        have hOm := HCM.out.1 HPK.out
        have hOo := HCO.out.1 HQK.out
        have hKl := closes_close hOl
        have hKm := closes_close hOm
        have hKo := closes_close hOo
        have hr1 : rightP C1 = true := by have h := HPK.out; unfold checkP at h; rw [Bool.and_eq_true] at h; exact h.2
        have hae : addsE c ⟨f, hi', hk', 1 + r, u3⟩ = 0 := by unfold addsE; rw [if_pos HC.out, HC1.out, if_pos hr1]
        have had : AddsOf c ⟨f, hi', hk', 1 + r, u3⟩ (sumI m - sumI l) := ⟨fun _ => ⟨l, m, hOl, by rw [HC1.out]; exact hOm, rfl⟩, fun h => absurd hae h⟩
        have b1 := sumI_bd (B := 9) (by decide) l fun y hy => by have := closes_nine HR.out hKl y hy; omega
        have b2 := sumI_bd (B := 9) (by decide) m fun y hy => by have := closes_nine (check_right HPK.out).1 hKm y hy; omega
        have hll := hKl.len
        have hlm := hKm.len
        have hlo := hKo.len
        have n11 : C2.sales.length ≤ 11 := by have := HC2L.out; have := hn2.out; omega
        have e2 : withC (withC c ⟨f, hi', hk', 1 + r, u3⟩) ⟨f2, hk', hi', 1 + r, u3⟩ = C2 := by rw [HC1.out, HC2.out]
        have hsum : sumI o ≤ sumI l := back_sum (c := c) (x := ⟨f, hi', hk', 1 + r, u3⟩) (y := ⟨f2, hk', hi', 1 + r, u3⟩) (by rw [e2]; exact R2.out) (by rw [e2]; exact n11) hKl (by rw [e2]; exact hOo) rfl rfl rfl (by show 0 ≤ 1 + r; have := HRB.out; omega)
        have hxm : (⟨f, hi', hk', 1 + r, u3⟩ : Sale) ∈ C2.sales := by rw [← HC2.out]; exact mem_with (by rw [← HC1.out]; exact with_mem _ _)
        have hym : (⟨f2, hk', hi', 1 + r, u3⟩ : Sale) ∈ C2.sales := by rw [← HC2.out]; exact with_mem _ _
        obtain ⟨i1, hx1⟩ := List.getElem?_of_mem hxm
        obtain ⟨i2, hy2⟩ := List.getElem?_of_mem hym
        have hone := back_one R2.out n11 hOo hx1 hy2 rfl rfl
        have hs1 := saleI_at R2.out hx1
        have hs2 := saleI_at R2.out hy2
        have l1 := (List.getElem?_eq_some_iff.1 hx1).1
        have l2 := (List.getElem?_eq_some_iff.1 hy2).1
        have emz : no = mz := by have := HMZ.out; have := hno.out; omega
        subst emz
        have hi1 : i1 < no := by have := hno.out; omega
        have hi2 : i2 < no := by have := hno.out; omega
        have hi1z : (i1 : Int) < (no : Int) := by omega
        have hi2z : (i2 : Int) < (no : Int) := by omega
        obtain ⟨bo, fo, z1, rfl, hz1, -, hc1⟩ := OM.out.at_ hi1
        obtain ⟨bo', fo', z2, eO, hz2, -, hc2⟩ := OM.out.at_ hi2
        cases eO
        rw [hz1, hz2] at hone
        simp only [Option.getD_some] at hone
        obtain ⟨sl, hsl⟩ : ∃ sl, sumI l = sl := ⟨_, rfl⟩
        obtain ⟨sm, hsm⟩ : ∃ sm, sumI m = sm := ⟨_, rfl⟩
        obtain ⟨so, hso⟩ : ∃ so, sumI o = so := ⟨_, rfl⟩
        rw [hsl] at hsum had b1
        rw [hsm] at had b2
        rw [hso] at hsum
        have hw1 : IntKind.i64.wrap (sm - sl) = sm - sl := by rw [IntKind.wrap_i64]; have := HN.out; have := HC1L.out; omega
        have hns : ¬ sl < so := by omega
        have HAD := Lib.hid had; have HAE := Lib.hid hae; have HS1 := Lib.hid hs1; have HS2 := Lib.hid hs2
        rw [hsl, hsm, hso]
        clear hsum had hae hs1 hs2 hx1 hy2 hxm hym e2 n11 hll hlm hlo b1 b2 hr1 hOl hOm hOo hKl hKm hKo hz1 hz2 l1 l2 hi1 hi2 hsl hsm hso hno
        have t0 := B0.out.c2
        have t8 := XB.out.c5
        go_wp2_with fail
        clear t0 t8
        refine (adds_any c ⟨f, hi', hk', 1 + r, u3⟩ (sm - sl) _ _ _ HAD.out (HT.out.ext E0.out) (HH.out.ext E0.out) (HS.out.ext E0.out) (by have := HR.out.h6; omega) (by have := HN.out; omega)).mono ?_
        rintro e we ⟨rfl, hE⟩
        rw [HAE.out]
        replace E0 := Lib.hid (E0.out.trans hE); replace XB := Lib.hid (XB.out.ext hE); replace VB := Lib.hid (VB.out.ext hE); replace ZB := Lib.hid (ZB.out.ext hE)
        replace Z1 := Lib.hid (Z1.out.ext hE); replace Z2 := Lib.hid (Z2.out.ext hE)
        have EO := Lib.hid hE
        clear hE
        have t0 := ZB.out.c2
        have t8 := XB.out.c5
        go_wp2_with fail
        clear t0 t8
        refine (saleAt_any C2 f _ _ _ Z1.out Z2.out).mono ?_
        rintro e wf ⟨rfl, hE⟩
        rw [show saleI C2 f = (i1 : Int) from HS1.out]
        replace E0 := Lib.hid (E0.out.trans hE); replace VB := Lib.hid (VB.out.ext hE); replace ZB := Lib.hid (ZB.out.ext hE)
        replace Z1 := Lib.hid (Z1.out.ext hE); replace Z2 := Lib.hid (Z2.out.ext hE)
        replace EO := Lib.hid (EO.out.trans hE)
        clear hE
        have r1 : wf.cell? ⟨bo, fo + i1, none⟩ = some (.int .i64 z1) := by simpa using hc1 wf EO.out 0 _ rfl
        by_cases hq1 : z1 = 0
        · subst hq1
          go_wp2
          go_ret
          exact ⟨rfl, E0.out⟩
        · have hz20 : z2 = 0 := by rcases hone with h | h; exact absurd h hq1; exact h
          subst hz20
          have hqq : (z1 == 0) = false := by rw [beq_eq_false_iff_ne]; exact hq1
          have t0 := ZB.out.c2
          have t2 := VB.out.c5
          go_wp2_with fail
          clear t0 t2 r1
          refine (saleAt_any C2 f2 _ _ _ Z1.out Z2.out).mono ?_
          rintro e wg ⟨rfl, hE⟩
          rw [show saleI C2 f2 = (i2 : Int) from HS2.out]
          replace E0 := Lib.hid (E0.out.trans hE)
          replace EO := Lib.hid (EO.out.trans hE)
          clear hE
          have r2 : wg.cell? ⟨bo, fo + i2, none⟩ = some (.int .i64 0) := by simpa using hc2 wg EO.out 0 _ rfl
          go_wp2
          go_ret
          exact ⟨rfl, E0.out⟩
end Go.Proofs.YtafdbgielmlihaaDoor
