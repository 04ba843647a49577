/- What MillMore says: plain. -/
import Derived.Test.YtkpengeaolcjhaaGreatDoorPkMlBestCardU
import Derived.Test.YtkpengeaolcjhaaGreatDoorPkMlBestCardX
import Derived.Test.YtkpengeaolcjhaaGreatDoorPkMlSwapCardA
namespace Go.Proofs.YtkpengeaolcjhaaGreatDoor
set_option linter.unusedSimpArgs false

theorem helps_at {m : Mll} {x : Cot} {b : List Int} (hc : checkM m = true) (hb : bestP m = some b) : ∃ c d e, helpsM m x = (c, d, e) ∧ ((e = 0 ∧ lessU (unev m b) (c, d) = false) ∨ e = 93 ∨ (e = 9 ∧ m.cots.length = 7)) := by
  unfold helpsM
  by_cases h7 : m.cots.length = 7
  · have e : putME m x = 9 := by unfold putME; rw [hc, if_pos rfl, if_pos h7]
    rw [e, if_neg (by decide)]
    exact ⟨_, _, _, rfl, .inr (.inr ⟨rfl, h7⟩)⟩
  · cases hp : checkM (putM m x) with
    | false =>
      have e : putME m x = 93 := by unfold putME; rw [hc, if_pos rfl, if_neg h7, hp]; rfl
      rw [e, if_neg (by decide)]
      exact ⟨_, _, _, rfl, .inr (.inl rfl)⟩
    | true =>
      have e : putME m x = 0 := by unfold putME; rw [hc, if_pos rfl, if_neg h7, hp]; rfl
      rw [e, if_pos rfl]
      have hcots := putM_cots (x := x) hc
      have hm' : putM m x = ⟨m.lots, m.size, m.cots.take (stopK m.cots x m.cots.length) ++ x :: m.cots.drop (stopK m.cots x m.cots.length)⟩ := by
        show (⟨m.lots, m.size, (putM m x).cots⟩ : Mll) = _
        rw [hcots]
        rfl
      have hmm : m = ⟨m.lots, m.size, m.cots.take (stopK m.cots x m.cots.length) ++ m.cots.drop (stopK m.cots x m.cots.length)⟩ := by rw [List.take_append_drop]
      have hok : Mok m := mok_of hc
      have hok' : Mok (putM m x) := mok_of hp
      rw [hm'] at hok'
      obtain ⟨b', h1, h2⟩ := more_even (x := x) (by rw [← hmm]; exact hok) hok' (b := b) (by rw [← hmm]; exact hb)
      rw [← hm'] at h1 h2
      rw [← hmm] at h2
      rw [(be_ok hp h1).1, (be_ok hp h1).2.2]
      exact ⟨_, _, _, rfl, .inl ⟨rfl, h2⟩⟩
theorem lost_two {m : Mll} {i : Nat} {x : Cot} {b : List Int} (hc : checkM m = true) (hx : m.cots[i]? = some x) (hb : bestP m = some b) : ∃ p q j, lostM m x.b.id = (p, q, j) ∧ ((j = 0 ∧ lessU (p, q) (unev m b) = false ∧ needI m (unev m b) i = lessU (unev m b) (p, q)) ∨ (j = 92 ∧ needI m (unev m b) i = true)) := by
  rw [lost_at hc hx]
  obtain ⟨-, -, h3⟩ := del_at hc hx
  cases hq : bestP (delM m i) with
  | none =>
    rw [(be_few h3 hq).1]
    exact ⟨_, _, _, rfl, .inr ⟨rfl, by unfold needI; rw [hq]⟩⟩
  | some q =>
    rw [(be_ok h3 hq).1, (be_ok h3 hq).2.2]
    exact ⟨_, _, _, rfl, .inl ⟨rfl, del_even hc hx hb hq, by unfold needI; rw [hq]⟩⟩
theorem need_any {m : Mll} {i : Nat} {x : Cot} {b : List Int} (hc : checkM m = true) (hx : m.cots[i]? = some x) (hb : bestP m = some b) : (needL m).any (fun n => decide (n = x.b.id)) = needI m (unev m b) i := by
  rw [need_eq hc hx hb]
  unfold needL
  rw [if_pos (be_ok hc hb).1, Bool.eq_iff_iff, List.any_eq_true]
  constructor
  · rintro ⟨n, hn, he⟩
    have he : n = x.b.id := by simpa using he
    subst he
    exact (List.mem_filter.1 hn).2
  · intro h
    exact ⟨x.b.id, List.mem_filter.2 ⟨List.mem_map.2 ⟨x, List.mem_of_getElem? hx, rfl⟩, h⟩, by simp⟩
theorem left_need {m : Mll} {i : Nat} {x : Cot} {b : List Int} (hc : checkM m = true) (hx : m.cots[i]? = some x) (hb : bestP m = some b) (h0 : b[i]? = some 0) : needI m (unev m b) i = false := by
  have hs := take_split hx
  have hl := (List.getElem?_eq_some_iff.1 hx).1
  have e : (⟨m.lots, m.size, m.cots.take i ++ x :: m.cots.drop (i + 1)⟩ : Mll) = m := by rw [← hs]
  have hm' : Mok ⟨m.lots, m.size, m.cots.take i ++ x :: m.cots.drop (i + 1)⟩ := by rw [e]; exact mok_of hc
  have hlen : (m.cots.take i).length = i := by rw [List.length_take]; omega
  obtain ⟨b', h1, h2⟩ := left_even (mok_of (del_at hc hx).2.2) hm' (b := b) (by rw [e]; exact hb) (by rw [hlen]; exact h0)
  rw [e] at h2
  unfold needI
  have h1' : bestP (delM m i) = some b' := h1
  rw [h1']
  exact h2
end Go.Proofs.YtkpengeaolcjhaaGreatDoor
/- The law MillMore: the walk. -/
namespace Go.Proofs.YtkpengeaolcjhaaGreatDoor
open Go.RowKit Go.Shelf Go.Lib
set_option maxRecDepth 100000
set_option linter.unusedSimpArgs false

/-- What stands while the law runs. -/
structure MrT (lots size : Int) (l : List Rc) (x : Rc) (A : Option Addr) (n c : Nat) (w : World) (W : World) : Prop where
  e : Ext w W
  b : Blk W w.heap.size 24 #[.int .i64 lots, .int .i64 size, .slice A n c]
  bx : Blk W (w.heap.size + 1) 63 (encC x).toArray
theorem MrT.ext {lots size : Int} {l : List Rc} {x : Rc} {A : Option Addr} {n c : Nat} {w : World} {W W' : World} (h : MrT lots size l x A n c w W) (e : Ext W W') : MrT lots size l x A n c w W' := ⟨h.e.trans e, h.b.ext e, h.bx.ext e⟩
theorem MrT.c8 {lots size : Int} {l : List Rc} {x : Rc} {A : Option Addr} {n c : Nat} {w W : World} (h : MrT lots size l x A n c w W) : W.cell? ⟨w.heap.size + 1, 0, none⟩ = some (.int .i64 x.c.b.id) ∧ W.cell? ⟨w.heap.size + 1, 1, none⟩ = some (.int .i64 x.c.b.layers) ∧ W.cell? ⟨w.heap.size + 1, 2, none⟩ = some (.int .i64 x.c.b.dry.lo) ∧ W.cell? ⟨w.heap.size + 1, 3, none⟩ = some (.int .i64 x.c.b.dry.hi) ∧
    W.cell? ⟨w.heap.size + 1, 4, none⟩ = some (.slice x.da x.dn x.dc) ∧ W.cell? ⟨w.heap.size + 1, 5, none⟩ = some (.slice x.wa x.wn x.wc) ∧ W.cell? ⟨w.heap.size + 1, 6, none⟩ = some (.int .i64 x.c.len) ∧ W.cell? ⟨w.heap.size + 1, 7, none⟩ = some (.int .i64 x.c.str) ∧ w.heap.size + 1 < W.heap.size :=
  ⟨h.bx.cell 0, h.bx.cell 1, h.bx.cell 2, h.bx.cell 3, h.bx.cell 4, h.bx.cell 5, h.bx.cell 6, h.bx.cell 7, h.bx.lt⟩
set_option maxHeartbeats 16000000 in
theorem millMore_of (hA : AliveM) (lots size : Int) (x : Rc) (x2 : Int) (l : List Rc) (sv : Value) (w : World) (hT : TabM w) (hs : MlC w sv l) (hx : SlD w (.slice x.da x.dn x.dc) x.c.b.draws ∧ SlW w (.slice x.wa x.wn x.wc) x.c.b.weighs) (hx2 : 0 ≤ x2 ∧ x2 ≤ 255) :
    Calls Tryz.prog 7 #[valM lots size sv, valC x, .int .u8 x2] w fun e w' => e = .returned (.bool true) ∧ Ext w w' := by
  have HS := Lib.hid hs; have HT := Lib.hid hT; have HX := Lib.hid hx
  obtain ⟨hx20, hx25⟩ := hx2
  obtain ⟨A, n, c, rfl, hn, hlc, hcm⟩ := hs.1.form
  have HL := Lib.hid (show l.length = n from hn.out.symm)
  have HXD := Lib.hid (show x.c.b.draws.length = x.dn from by obtain ⟨_, _, e, _⟩ := hx.1; injection e with _ e _; exact e.symm)
  have HXW := Lib.hid (show x.c.b.weighs.length = x.wn from by obtain ⟨_, _, e, _⟩ := hx.2; injection e with _ e _; exact e.symm)
  clear hs hT hn hx
  go_enter Tryz.func7, Tryz.ntmps7
  go_wp2_with fail
  obtain ⟨w0, hw0⟩ : ∃ w0, w0 = (w.alloc (.cells #[.int .i64 lots, .int .i64 size, .slice A n c] 24)).alloc (.cells #[.int .i64 x.c.b.id, .int .i64 x.c.b.layers, .int .i64 x.c.b.dry.lo, .int .i64 x.c.b.dry.hi, .slice x.da x.dn x.dc, .slice x.wa x.wn x.wc, .int .i64 x.c.len, .int .i64 x.c.str] 63) := ⟨_, rfl⟩
  rw [← hw0]
  have M := Lib.hid (show MrT lots size l x A n c w w0 from ⟨hw0 ▸ (Ext.al _ _).alloc _, hw0 ▸ (Blk.new _ _ _).alloc _, hw0 ▸ Blk.at_ (by simp)⟩)
  clear hw0
  refine (hA _ (HT.out.ext M.out.e)).mono ?_
  rintro e w1 ⟨rfl, hE⟩
  replace M := Lib.hid (M.out.ext hE)
  clear hE hA
  have x0 := M.out.b.c3
  go_wp2_with fail
  refine (readyM_any lots size l _ _ (HS.out.ext M.out.e)).mono ?_
  rintro e w2 ⟨rfl, hE⟩
  replace M := Lib.hid (M.out.ext hE)
  clear hE x0
  obtain ⟨rd, hrd⟩ : ∃ rd, (!greatM l && checkM (mOf lots size l)) = rd := ⟨_, rfl⟩
  rw [hrd]
  cases rd with
  | false =>
    clear hrd
    go_wp2
    go_ret
    exact ⟨rfl, M.out.e⟩
  | true =>
    rw [Bool.and_eq_true] at hrd
    have HC := Lib.hid hrd.2
    have HMO := Lib.hid (mok_of hrd.2)
    have HN7 := Lib.hid (show n ≤ 7 by have h := HMO.out.n7; simp at h; have := HL.out; omega)
    have HLN := Lib.hid (show l.length ≤ 900 by have := HN7.out; have := HL.out; omega)
    clear hrd
    have x0 := M.out.b.c3
    have x1 := M.out.c8
    by_cases hd : (20 : Int) < (x.dn : Int)
    · have hd2 : 20 < x.dn := by omega
      go_wp2
      go_ret
      exact ⟨rfl, M.out.e⟩
    have hd2 : ¬ 20 < x.dn := by omega
    by_cases hw : (16 : Int) < (x.wn : Int)
    · have hw2 : 16 < x.wn := by omega
      go_wp2
      go_ret
      exact ⟨rfl, M.out.e⟩
    have hw2 : ¬ 16 < x.wn := by omega
    go_wp2_with fail
    refine (evenM_any lots size l _ _ (HT.out.ext M.out.e) (HS.out.ext M.out.e) (by have := HLN.out; omega)).mono ?_
    rintro e w3 ⟨rfl, hE⟩
    replace M := Lib.hid (M.out.ext hE)
    clear hE x0 x1
    cases hb : bestP (mOf lots size l) with
    | none =>
      obtain ⟨q1, q2, q3⟩ := be_few HC.out hb
      rw [q1, q3]
      clear hb q1 q2 q3
      go_wp2
      go_ret
      exact ⟨rfl, M.out.e⟩
    | some b =>
      obtain ⟨q1, q2, q3⟩ := be_ok HC.out hb
      rw [q1, q3]
      have HQ1 := Lib.hid q1; have HQ2 := Lib.hid q2
      have HB := Lib.hid hb
      have HBL := Lib.hid (show b.length = l.length by have := (plans_mem HMO.out (bestP_mem hb)).1; simpa using this)
      have hn0 : 0 < n := by have := plan_some HMO.out (bestP_mem hb); have := HBL.out; have := HL.out; omega
      have hn7 : n ≤ 7 := HN7.out
      obtain ⟨⟨u1, u2⟩, hu⟩ : ∃ u, unev (mOf lots size l) b = u := ⟨_, rfl⟩
      have HU := Lib.hid hu
      rw [hu]
      obtain ⟨iI, hiI, htI⟩ := mod_at (x := x2) hx20 hn0
      have hx2w : IntKind.i64.wrap x2 = x2 := by rw [IntKind.wrap_i64]; omega
      have hnn : (n : Int) ≠ 0 := by omega
      have hnn2 : ¬ n = 0 := by omega
      obtain ⟨c1, d1, e1, hlp, hcase⟩ := helps_at (x := x.c) HC.out hb
      rw [hu] at hcase
      have HHP := Lib.hid hlp
      clear hb q1 q2 q3 hu hlp
      have x0 := M.out.b.c3
      have x1 := M.out.c8
      go_wp2_with fail
      refine (helpsM_any lots size l x _ _ (HT.out.ext M.out.e) (HS.out.ext M.out.e) (HX.out.1.ext M.out.e) (HX.out.2.ext M.out.e) HLN.out (by have := HXD.out; have := HXW.out; omega)).mono ?_
      rintro e w4 ⟨rfl, hE⟩
      rw [HHP.out]
      replace M := Lib.hid (M.out.ext hE)
      clear hE x0 x1
      have x0 := M.out.b.c3
      obtain ⟨bi, offi, xi, rfl, hxi, -, hci⟩ := HS.out.1.at_ hiI
      have HXI := Lib.hid (show (mOf lots size l).cots[iI]? = some xi.c by simp [hxi])
      have hiz : (iI : Int) < (n : Int) := by omega
      have hi0 : (0 : Int) ≤ (iI : Int) := by omega
      obtain ⟨p, q, j, hlo, hj⟩ := lost_two HC.out HXI.out HB.out
      rw [HU.out] at hj
      have HLO := Lib.hid hlo
      have HNA := Lib.hid (need_any HC.out HXI.out HB.out)
      have HLFT := Lib.hid (left_need HC.out HXI.out HB.out)
      rw [HU.out] at HNA HLFT
      obtain ⟨nd, hnd⟩ : ∃ nd, needI (mOf lots size l) (u1, u2) iI = nd := ⟨_, rfl⟩
      rw [hnd] at HNA HLFT hj
      obtain ⟨bb, hbb⟩ : ∃ bb, b[iI]? = some bb := ⟨_, List.getElem?_eq_getElem (by have := HBL.out; have := HL.out; omega)⟩
      have HBB := Lib.hid hbb
      obtain ⟨idv, hid⟩ : ∃ idv, xi.c.b.id = idv := ⟨_, rfl⟩
      clear hxi hlo hnd hbb
      rw [hid] at HLO HNA
      rcases hcase with ⟨rfl, hle⟩ | rfl | ⟨rfl, h7⟩
      · have HLE := Lib.hid hle
        clear hle
        go_wp2_with fail
        refine (lessQ_any u1 u2 c1 d1 _).mono ?_
        rintro e w5 ⟨rfl, rfl⟩
        rw [HLE.out]
        clear x0 HLE
        have x2' := M.out.b.c3
        have k0 := (SlC.cells hci M.out.e).1
        rw [hid] at k0
        go_wp2_with fail
        refine (bestM_any lots size l _ _ (HT.out.ext M.out.e) (HS.out.ext M.out.e) (by have := HLN.out; omega)).mono ?_
        rintro e w6 ⟨⟨pv, rfl, hpv⟩, hE⟩
        rw [HQ2.out] at hpv
        rw [HQ1.out]
        replace M := Lib.hid (M.out.ext hE)
        obtain ⟨Ap, np, cp, rfl, hnp, -, -⟩ := hpv.form
        have hnpn : np = n := by have := hnp.out; have := HBL.out; have := HL.out; omega
        subst hnpn
        have P6 := Lib.hid hpv
        clear hE hpv hnp x2' k0
        have x2' := M.out.b.c3
        go_wp2_with fail
        refine (needsM_any lots size l _ _ (HT.out.ext M.out.e) (HS.out.ext M.out.e) HLN.out).mono ?_
        rintro e w7 ⟨⟨nv, rfl, hnv⟩, hE⟩
        rw [HQ1.out]
        replace M := Lib.hid (M.out.ext hE)
        have P7 := Lib.hid (P6.out.ext hE)
        obtain ⟨An, nn, cn, rfl, hnn', -, -⟩ := hnv.form
        have N7 := Lib.hid hnv
        have HNL := Lib.hid (show (needL (mOf lots size l)).length = nn from hnn'.out.symm)
        have hnn7 : nn ≤ 7 := by
          have h1 : (needL (mOf lots size l)).length ≤ (idsL (mOf lots size l)).length := by
            unfold needL
            split
            · exact List.length_filter_le _ _
            · simp
          simp [idsL] at h1
          have := HNL.out; have := HL.out; have := HN7.out; omega
        clear hE hnv hnn' P6 x2'
        have x2' := M.out.b.c3
        go_wp2_with fail
        refine (withoutM_any lots size idv l _ _ (HT.out.ext M.out.e) (HS.out.ext M.out.e) HLN.out).mono ?_
        rintro e w8 ⟨rfl, hE⟩
        rw [HLO.out]
        replace M := Lib.hid (M.out.ext hE)
        have P8 := Lib.hid (P7.out.ext hE)
        have N8 := Lib.hid (N7.out.ext hE)
        clear hE P7 N7 x2'
        have x2' := M.out.b.c3
        rcases hj with ⟨rfl, hl1, hl2⟩ | ⟨rfl, hl2⟩
        · have HL1 := Lib.hid hl1; have HL2 := Lib.hid hl2
          clear hl1 hl2
          go_wp2_with fail
          refine (lessQ_any p q u1 u2 _).mono ?_
          rintro e w9 ⟨rfl, rfl⟩
          rw [HL1.out]
          go_wp2
          go_loopg [23, 161] nn (fun gg s23 s161 wr => ∃ k : Nat, k ≤ nn ∧ nn - k ≤ gg ∧ s161 = .int .i64 (k : Int) ∧ (∃ t : Bool, s23 = .bool t ∧ Aside (((needL (mOf lots size l)).take k).any (fun n => decide (n = idv)) = t)) ∧ Aside (Ext w8 wr))
          case atStart => exact ⟨0, by omega, by omega, by simp, ⟨false, rfl, rfl⟩, Ext.refl _⟩
          case round =>
            obtain ⟨k, hk, hgg, rfl, ⟨t, rfl, TK⟩, EK⟩ := hrel
            by_cases hkn : k < nn
            · have hknz : (k : Int) < (nn : Int) := by omega
              have hk0 : (0 : Int) ≤ (k : Int) := by omega
              obtain ⟨bn, offn, y, rfl, hy, -, hcy⟩ := N8.out.at_ hkn
              have c0 := SlI.cell hcy EK.out
              have HTS := Lib.hid (show ((needL (mOf lots size l)).take (k + 1)).any (fun n => decide (n = idv)) = (t || decide (y = idv)) by
                rw [List.take_add_one, hy, List.any_append, TK.out]
                simp)
              clear hy hcy x2'
              cases t with
              | true =>
                go_wp2
                go_roundg (nn - (k + 1))
                case measure => omega
                case rel => exact ⟨k + 1, by omega, by omega, by simp, ⟨true, rfl, HTS.out⟩, EK.out⟩
              | false =>
                by_cases hyi : y = idv
                · have HT1 := Lib.hid (show ((needL (mOf lots size l)).take (k + 1)).any (fun n => decide (n = idv)) = true by rw [HTS.out, decide_eq_true hyi]; rfl)
                  have hyb : (y == idv) = true := by simp [hyi]
                  subst hyi
                  go_wp2
                  go_roundg (nn - (k + 1))
                  case measure => omega
                  case rel => exact ⟨k + 1, by omega, by omega, by simp, ⟨true, by first | rfl | simp, HT1.out⟩, EK.out⟩
                · have HT1 := Lib.hid (show ((needL (mOf lots size l)).take (k + 1)).any (fun n => decide (n = idv)) = false by rw [HTS.out, decide_eq_false hyi]; rfl)
                  have hyb : (y == idv) = false := by simpa using hyi
                  go_wp2
                  go_roundg (nn - (k + 1))
                  case measure => omega
                  case rel => exact ⟨k + 1, by omega, by omega, by simp, ⟨false, by first | rfl | simp, HT1.out⟩, EK.out⟩
            · have HTE := Lib.hid (show t = nd by rw [← TK.out, List.take_of_length_le (by have := HNL.out; omega)]; exact HNA.out)
              obtain ⟨bp, offp, yb, rfl, hyb, -, hcb⟩ := P8.out.at_ hiI
              obtain rfl : yb = bb := by rw [HBB.out] at hyb; injection hyb with h; exact h.symm
              have cb := SlI.cell hcb (Ext.refl _ |>.trans EK.out)
              have HEE := Lib.hid (M.out.e.trans EK.out)
              rw [HTE.out]
              clear hyb hcb x2'
              by_cases hb0 : yb = 0
              · subst hb0
                have hndf := HLFT.out HBB.out
                rw [hndf] at HL2 ⊢
                go_wp2_with fail
                refine (lessQ_any u1 u2 p q _).mono ?_
                rintro e wz ⟨rfl, rfl⟩
                rw [← HL2.out]
                go_wp2
                go_ret
                exact ⟨rfl, HEE.out⟩
              · have hb0b : (yb == 0) = false := by simpa using hb0
                go_wp2_with fail
                refine (lessQ_any u1 u2 p q _).mono ?_
                rintro e wz ⟨rfl, rfl⟩
                rw [← HL2.out]
                cases nd
                all_goals
                  go_wp2
                  go_ret
                  exact ⟨rfl, HEE.out⟩
        · subst hl2
          go_wp2
          go_loopg [23, 161] nn (fun gg s23 s161 wr => ∃ k : Nat, k ≤ nn ∧ nn - k ≤ gg ∧ s161 = .int .i64 (k : Int) ∧ (∃ t : Bool, s23 = .bool t ∧ Aside (((needL (mOf lots size l)).take k).any (fun n => decide (n = idv)) = t)) ∧ Aside (Ext w8 wr))
          case atStart => exact ⟨0, by omega, by omega, by simp, ⟨false, rfl, rfl⟩, Ext.refl _⟩
          case round =>
            obtain ⟨k, hk, hgg, rfl, ⟨t, rfl, TK⟩, EK⟩ := hrel
            by_cases hkn : k < nn
            · have hknz : (k : Int) < (nn : Int) := by omega
              have hk0 : (0 : Int) ≤ (k : Int) := by omega
              obtain ⟨bn, offn, y, rfl, hy, -, hcy⟩ := N8.out.at_ hkn
              have c0 := SlI.cell hcy EK.out
              have HTS := Lib.hid (show ((needL (mOf lots size l)).take (k + 1)).any (fun n => decide (n = idv)) = (t || decide (y = idv)) by
                rw [List.take_add_one, hy, List.any_append, TK.out]
                simp)
              clear hy hcy x2'
              cases t with
              | true =>
                go_wp2
                go_roundg (nn - (k + 1))
                case measure => omega
                case rel => exact ⟨k + 1, by omega, by omega, by simp, ⟨true, rfl, HTS.out⟩, EK.out⟩
              | false =>
                by_cases hyi : y = idv
                · have HT1 := Lib.hid (show ((needL (mOf lots size l)).take (k + 1)).any (fun n => decide (n = idv)) = true by rw [HTS.out, decide_eq_true hyi]; rfl)
                  have hyb : (y == idv) = true := by simp [hyi]
                  subst hyi
                  go_wp2
                  go_roundg (nn - (k + 1))
                  case measure => omega
                  case rel => exact ⟨k + 1, by omega, by omega, by simp, ⟨true, by first | rfl | simp, HT1.out⟩, EK.out⟩
                · have HT1 := Lib.hid (show ((needL (mOf lots size l)).take (k + 1)).any (fun n => decide (n = idv)) = false by rw [HTS.out, decide_eq_false hyi]; rfl)
                  have hyb : (y == idv) = false := by simpa using hyi
                  go_wp2
                  go_roundg (nn - (k + 1))
                  case measure => omega
                  case rel => exact ⟨k + 1, by omega, by omega, by simp, ⟨false, by first | rfl | simp, HT1.out⟩, EK.out⟩
            · have HTE := Lib.hid (show t = true by rw [← TK.out, List.take_of_length_le (by have := HNL.out; omega)]; exact HNA.out)
              obtain ⟨bp, offp, yb, rfl, hyb, -, hcb⟩ := P8.out.at_ hiI
              obtain rfl : yb = bb := by rw [HBB.out] at hyb; injection hyb with h; exact h.symm
              have cb := SlI.cell hcb (Ext.refl _ |>.trans EK.out)
              have HEE := Lib.hid (M.out.e.trans EK.out)
              rw [HTE.out]
              have hb0 : yb ≠ 0 := fun e => by have := HLFT.out (by rw [← e]; exact HBB.out); cases this
              have hb0b : (yb == 0) = false := by simpa using hb0
              clear hyb hcb x2'
              go_wp2
              go_ret
              exact ⟨rfl, HEE.out⟩
      · clear x0
        have x0 := M.out.b.c3
        have x2' := M.out.b.c3
        have k0 := (SlC.cells hci M.out.e).1
        rw [hid] at k0
        go_wp2_with fail
        refine (bestM_any lots size l _ _ (HT.out.ext M.out.e) (HS.out.ext M.out.e) (by have := HLN.out; omega)).mono ?_
        rintro e w6 ⟨⟨pv, rfl, hpv⟩, hE⟩
        rw [HQ2.out] at hpv
        rw [HQ1.out]
        replace M := Lib.hid (M.out.ext hE)
        obtain ⟨Ap, np, cp, rfl, hnp, -, -⟩ := hpv.form
        have hnpn : np = n := by have := hnp.out; have := HBL.out; have := HL.out; omega
        subst hnpn
        have P6 := Lib.hid hpv
        clear hE hpv hnp x2' k0
        have x2' := M.out.b.c3
        go_wp2_with fail
        refine (needsM_any lots size l _ _ (HT.out.ext M.out.e) (HS.out.ext M.out.e) HLN.out).mono ?_
        rintro e w7 ⟨⟨nv, rfl, hnv⟩, hE⟩
        rw [HQ1.out]
        replace M := Lib.hid (M.out.ext hE)
        have P7 := Lib.hid (P6.out.ext hE)
        obtain ⟨An, nn, cn, rfl, hnn', -, -⟩ := hnv.form
        have N7 := Lib.hid hnv
        have HNL := Lib.hid (show (needL (mOf lots size l)).length = nn from hnn'.out.symm)
        have hnn7 : nn ≤ 7 := by
          have h1 : (needL (mOf lots size l)).length ≤ (idsL (mOf lots size l)).length := by
            unfold needL
            split
            · exact List.length_filter_le _ _
            · simp
          simp [idsL] at h1
          have := HNL.out; have := HL.out; have := HN7.out; omega
        clear hE hnv hnn' P6 x2'
        have x2' := M.out.b.c3
        go_wp2_with fail
        refine (withoutM_any lots size idv l _ _ (HT.out.ext M.out.e) (HS.out.ext M.out.e) HLN.out).mono ?_
        rintro e w8 ⟨rfl, hE⟩
        rw [HLO.out]
        replace M := Lib.hid (M.out.ext hE)
        have P8 := Lib.hid (P7.out.ext hE)
        have N8 := Lib.hid (N7.out.ext hE)
        clear hE P7 N7 x2'
        have x2' := M.out.b.c3
        rcases hj with ⟨rfl, hl1, hl2⟩ | ⟨rfl, hl2⟩
        · have HL1 := Lib.hid hl1; have HL2 := Lib.hid hl2
          clear hl1 hl2
          go_wp2_with fail
          refine (lessQ_any p q u1 u2 _).mono ?_
          rintro e w9 ⟨rfl, rfl⟩
          rw [HL1.out]
          go_wp2
          go_loopg [23, 161] nn (fun gg s23 s161 wr => ∃ k : Nat, k ≤ nn ∧ nn - k ≤ gg ∧ s161 = .int .i64 (k : Int) ∧ (∃ t : Bool, s23 = .bool t ∧ Aside (((needL (mOf lots size l)).take k).any (fun n => decide (n = idv)) = t)) ∧ Aside (Ext w8 wr))
          case atStart => exact ⟨0, by omega, by omega, by simp, ⟨false, rfl, rfl⟩, Ext.refl _⟩
          case round =>
            obtain ⟨k, hk, hgg, rfl, ⟨t, rfl, TK⟩, EK⟩ := hrel
            by_cases hkn : k < nn
            · have hknz : (k : Int) < (nn : Int) := by omega
              have hk0 : (0 : Int) ≤ (k : Int) := by omega
              obtain ⟨bn, offn, y, rfl, hy, -, hcy⟩ := N8.out.at_ hkn
              have c0 := SlI.cell hcy EK.out
              have HTS := Lib.hid (show ((needL (mOf lots size l)).take (k + 1)).any (fun n => decide (n = idv)) = (t || decide (y = idv)) by
                rw [List.take_add_one, hy, List.any_append, TK.out]
                simp)
              clear hy hcy x2'
              cases t with
              | true =>
                go_wp2
                go_roundg (nn - (k + 1))
                case measure => omega
                case rel => exact ⟨k + 1, by omega, by omega, by simp, ⟨true, rfl, HTS.out⟩, EK.out⟩
              | false =>
                by_cases hyi : y = idv
                · have HT1 := Lib.hid (show ((needL (mOf lots size l)).take (k + 1)).any (fun n => decide (n = idv)) = true by rw [HTS.out, decide_eq_true hyi]; rfl)
                  have hyb : (y == idv) = true := by simp [hyi]
                  subst hyi
                  go_wp2
                  go_roundg (nn - (k + 1))
                  case measure => omega
                  case rel => exact ⟨k + 1, by omega, by omega, by simp, ⟨true, by first | rfl | simp, HT1.out⟩, EK.out⟩
                · have HT1 := Lib.hid (show ((needL (mOf lots size l)).take (k + 1)).any (fun n => decide (n = idv)) = false by rw [HTS.out, decide_eq_false hyi]; rfl)
                  have hyb : (y == idv) = false := by simpa using hyi
                  go_wp2
                  go_roundg (nn - (k + 1))
                  case measure => omega
                  case rel => exact ⟨k + 1, by omega, by omega, by simp, ⟨false, by first | rfl | simp, HT1.out⟩, EK.out⟩
            · have HTE := Lib.hid (show t = nd by rw [← TK.out, List.take_of_length_le (by have := HNL.out; omega)]; exact HNA.out)
              obtain ⟨bp, offp, yb, rfl, hyb, -, hcb⟩ := P8.out.at_ hiI
              obtain rfl : yb = bb := by rw [HBB.out] at hyb; injection hyb with h; exact h.symm
              have cb := SlI.cell hcb (Ext.refl _ |>.trans EK.out)
              have HEE := Lib.hid (M.out.e.trans EK.out)
              rw [HTE.out]
              clear hyb hcb x2'
              by_cases hb0 : yb = 0
              · subst hb0
                have hndf := HLFT.out HBB.out
                rw [hndf] at HL2 ⊢
                go_wp2_with fail
                refine (lessQ_any u1 u2 p q _).mono ?_
                rintro e wz ⟨rfl, rfl⟩
                rw [← HL2.out]
                go_wp2
                go_ret
                exact ⟨rfl, HEE.out⟩
              · have hb0b : (yb == 0) = false := by simpa using hb0
                go_wp2_with fail
                refine (lessQ_any u1 u2 p q _).mono ?_
                rintro e wz ⟨rfl, rfl⟩
                rw [← HL2.out]
                cases nd
                all_goals
                  go_wp2
                  go_ret
                  exact ⟨rfl, HEE.out⟩
        · subst hl2
          go_wp2
          go_loopg [23, 161] nn (fun gg s23 s161 wr => ∃ k : Nat, k ≤ nn ∧ nn - k ≤ gg ∧ s161 = .int .i64 (k : Int) ∧ (∃ t : Bool, s23 = .bool t ∧ Aside (((needL (mOf lots size l)).take k).any (fun n => decide (n = idv)) = t)) ∧ Aside (Ext w8 wr))
          case atStart => exact ⟨0, by omega, by omega, by simp, ⟨false, rfl, rfl⟩, Ext.refl _⟩
          case round =>
            obtain ⟨k, hk, hgg, rfl, ⟨t, rfl, TK⟩, EK⟩ := hrel
            by_cases hkn : k < nn
            · have hknz : (k : Int) < (nn : Int) := by omega
              have hk0 : (0 : Int) ≤ (k : Int) := by omega
              obtain ⟨bn, offn, y, rfl, hy, -, hcy⟩ := N8.out.at_ hkn
              have c0 := SlI.cell hcy EK.out
              have HTS := Lib.hid (show ((needL (mOf lots size l)).take (k + 1)).any (fun n => decide (n = idv)) = (t || decide (y = idv)) by
                rw [List.take_add_one, hy, List.any_append, TK.out]
                simp)
              clear hy hcy x2'
              cases t with
              | true =>
                go_wp2
                go_roundg (nn - (k + 1))
                case measure => omega
                case rel => exact ⟨k + 1, by omega, by omega, by simp, ⟨true, rfl, HTS.out⟩, EK.out⟩
              | false =>
                by_cases hyi : y = idv
                · have HT1 := Lib.hid (show ((needL (mOf lots size l)).take (k + 1)).any (fun n => decide (n = idv)) = true by rw [HTS.out, decide_eq_true hyi]; rfl)
                  have hyb : (y == idv) = true := by simp [hyi]
                  subst hyi
                  go_wp2
                  go_roundg (nn - (k + 1))
                  case measure => omega
                  case rel => exact ⟨k + 1, by omega, by omega, by simp, ⟨true, by first | rfl | simp, HT1.out⟩, EK.out⟩
                · have HT1 := Lib.hid (show ((needL (mOf lots size l)).take (k + 1)).any (fun n => decide (n = idv)) = false by rw [HTS.out, decide_eq_false hyi]; rfl)
                  have hyb : (y == idv) = false := by simpa using hyi
                  go_wp2
                  go_roundg (nn - (k + 1))
                  case measure => omega
                  case rel => exact ⟨k + 1, by omega, by omega, by simp, ⟨false, by first | rfl | simp, HT1.out⟩, EK.out⟩
            · have HTE := Lib.hid (show t = true by rw [← TK.out, List.take_of_length_le (by have := HNL.out; omega)]; exact HNA.out)
              obtain ⟨bp, offp, yb, rfl, hyb, -, hcb⟩ := P8.out.at_ hiI
              obtain rfl : yb = bb := by rw [HBB.out] at hyb; injection hyb with h; exact h.symm
              have cb := SlI.cell hcb (Ext.refl _ |>.trans EK.out)
              have HEE := Lib.hid (M.out.e.trans EK.out)
              rw [HTE.out]
              have hb0 : yb ≠ 0 := fun e => by have := HLFT.out (by rw [← e]; exact HBB.out); cases this
              have hb0b : (yb == 0) = false := by simpa using hb0
              clear hyb hcb x2'
              go_wp2
              go_ret
              exact ⟨rfl, HEE.out⟩
      · have h7n : n = 7 := by have := HL.out; simp at h7; omega
        have h7b : ((n : Int) == 7) = true := by simp; omega
        have H7 := Lib.hid h7n
        clear h7 x0 h7n
        have x2' := M.out.b.c3
        have k0 := (SlC.cells hci M.out.e).1
        rw [hid] at k0
        go_wp2_with fail
        refine (bestM_any lots size l _ _ (HT.out.ext M.out.e) (HS.out.ext M.out.e) (by have := HLN.out; omega)).mono ?_
        rintro e w6 ⟨⟨pv, rfl, hpv⟩, hE⟩
        rw [HQ2.out] at hpv
        rw [HQ1.out]
        replace M := Lib.hid (M.out.ext hE)
        obtain ⟨Ap, np, cp, rfl, hnp, -, -⟩ := hpv.form
        have hnpn : np = n := by have := hnp.out; have := HBL.out; have := HL.out; omega
        subst hnpn
        have P6 := Lib.hid hpv
        clear hE hpv hnp x2' k0
        have x2' := M.out.b.c3
        go_wp2_with fail
        refine (needsM_any lots size l _ _ (HT.out.ext M.out.e) (HS.out.ext M.out.e) HLN.out).mono ?_
        rintro e w7 ⟨⟨nv, rfl, hnv⟩, hE⟩
        rw [HQ1.out]
        replace M := Lib.hid (M.out.ext hE)
        have P7 := Lib.hid (P6.out.ext hE)
        obtain ⟨An, nn, cn, rfl, hnn', -, -⟩ := hnv.form
        have N7 := Lib.hid hnv
        have HNL := Lib.hid (show (needL (mOf lots size l)).length = nn from hnn'.out.symm)
        have hnn7 : nn ≤ 7 := by
          have h1 : (needL (mOf lots size l)).length ≤ (idsL (mOf lots size l)).length := by
            unfold needL
            split
            · exact List.length_filter_le _ _
            · simp
          simp [idsL] at h1
          have := HNL.out; have := HL.out; have := HN7.out; omega
        clear hE hnv hnn' P6 x2'
        have x2' := M.out.b.c3
        go_wp2_with fail
        refine (withoutM_any lots size idv l _ _ (HT.out.ext M.out.e) (HS.out.ext M.out.e) HLN.out).mono ?_
        rintro e w8 ⟨rfl, hE⟩
        rw [HLO.out]
        replace M := Lib.hid (M.out.ext hE)
        have P8 := Lib.hid (P7.out.ext hE)
        have N8 := Lib.hid (N7.out.ext hE)
        clear hE P7 N7 x2'
        have x2' := M.out.b.c3
        rcases hj with ⟨rfl, hl1, hl2⟩ | ⟨rfl, hl2⟩
        · have HL1 := Lib.hid hl1; have HL2 := Lib.hid hl2
          clear hl1 hl2
          go_wp2_with fail
          refine (lessQ_any p q u1 u2 _).mono ?_
          rintro e w9 ⟨rfl, rfl⟩
          rw [HL1.out]
          go_wp2
          go_loopg [23, 161] nn (fun gg s23 s161 wr => ∃ k : Nat, k ≤ nn ∧ nn - k ≤ gg ∧ s161 = .int .i64 (k : Int) ∧ (∃ t : Bool, s23 = .bool t ∧ Aside (((needL (mOf lots size l)).take k).any (fun n => decide (n = idv)) = t)) ∧ Aside (Ext w8 wr))
          case atStart => exact ⟨0, by omega, by omega, by simp, ⟨false, rfl, rfl⟩, Ext.refl _⟩
          case round =>
            obtain ⟨k, hk, hgg, rfl, ⟨t, rfl, TK⟩, EK⟩ := hrel
            by_cases hkn : k < nn
            · have hknz : (k : Int) < (nn : Int) := by omega
              have hk0 : (0 : Int) ≤ (k : Int) := by omega
              obtain ⟨bn, offn, y, rfl, hy, -, hcy⟩ := N8.out.at_ hkn
              have c0 := SlI.cell hcy EK.out
              have HTS := Lib.hid (show ((needL (mOf lots size l)).take (k + 1)).any (fun n => decide (n = idv)) = (t || decide (y = idv)) by
                rw [List.take_add_one, hy, List.any_append, TK.out]
                simp)
              clear hy hcy x2'
              cases t with
              | true =>
                go_wp2
                go_roundg (nn - (k + 1))
                case measure => omega
                case rel => exact ⟨k + 1, by omega, by omega, by simp, ⟨true, rfl, HTS.out⟩, EK.out⟩
              | false =>
                by_cases hyi : y = idv
                · have HT1 := Lib.hid (show ((needL (mOf lots size l)).take (k + 1)).any (fun n => decide (n = idv)) = true by rw [HTS.out, decide_eq_true hyi]; rfl)
                  have hyb : (y == idv) = true := by simp [hyi]
                  subst hyi
                  go_wp2
                  go_roundg (nn - (k + 1))
                  case measure => omega
                  case rel => exact ⟨k + 1, by omega, by omega, by simp, ⟨true, by first | rfl | simp, HT1.out⟩, EK.out⟩
                · have HT1 := Lib.hid (show ((needL (mOf lots size l)).take (k + 1)).any (fun n => decide (n = idv)) = false by rw [HTS.out, decide_eq_false hyi]; rfl)
                  have hyb : (y == idv) = false := by simpa using hyi
                  go_wp2
                  go_roundg (nn - (k + 1))
                  case measure => omega
                  case rel => exact ⟨k + 1, by omega, by omega, by simp, ⟨false, by first | rfl | simp, HT1.out⟩, EK.out⟩
            · have HTE := Lib.hid (show t = nd by rw [← TK.out, List.take_of_length_le (by have := HNL.out; omega)]; exact HNA.out)
              obtain ⟨bp, offp, yb, rfl, hyb, -, hcb⟩ := P8.out.at_ hiI
              obtain rfl : yb = bb := by rw [HBB.out] at hyb; injection hyb with h; exact h.symm
              have cb := SlI.cell hcb (Ext.refl _ |>.trans EK.out)
              have HEE := Lib.hid (M.out.e.trans EK.out)
              rw [HTE.out]
              clear hyb hcb x2'
              by_cases hb0 : yb = 0
              · subst hb0
                have hndf := HLFT.out HBB.out
                rw [hndf] at HL2 ⊢
                go_wp2_with fail
                refine (lessQ_any u1 u2 p q _).mono ?_
                rintro e wz ⟨rfl, rfl⟩
                rw [← HL2.out]
                go_wp2
                go_ret
                exact ⟨rfl, HEE.out⟩
              · have hb0b : (yb == 0) = false := by simpa using hb0
                go_wp2_with fail
                refine (lessQ_any u1 u2 p q _).mono ?_
                rintro e wz ⟨rfl, rfl⟩
                rw [← HL2.out]
                cases nd
                all_goals
                  go_wp2
                  go_ret
                  exact ⟨rfl, HEE.out⟩
        · subst hl2
          go_wp2
          go_loopg [23, 161] nn (fun gg s23 s161 wr => ∃ k : Nat, k ≤ nn ∧ nn - k ≤ gg ∧ s161 = .int .i64 (k : Int) ∧ (∃ t : Bool, s23 = .bool t ∧ Aside (((needL (mOf lots size l)).take k).any (fun n => decide (n = idv)) = t)) ∧ Aside (Ext w8 wr))
          case atStart => exact ⟨0, by omega, by omega, by simp, ⟨false, rfl, rfl⟩, Ext.refl _⟩
          case round =>
            obtain ⟨k, hk, hgg, rfl, ⟨t, rfl, TK⟩, EK⟩ := hrel
            by_cases hkn : k < nn
            · have hknz : (k : Int) < (nn : Int) := by omega
              have hk0 : (0 : Int) ≤ (k : Int) := by omega
              obtain ⟨bn, offn, y, rfl, hy, -, hcy⟩ := N8.out.at_ hkn
              have c0 := SlI.cell hcy EK.out
              have HTS := Lib.hid (show ((needL (mOf lots size l)).take (k + 1)).any (fun n => decide (n = idv)) = (t || decide (y = idv)) by
                rw [List.take_add_one, hy, List.any_append, TK.out]
                simp)
              clear hy hcy x2'
              cases t with
              | true =>
                go_wp2
                go_roundg (nn - (k + 1))
                case measure => omega
                case rel => exact ⟨k + 1, by omega, by omega, by simp, ⟨true, rfl, HTS.out⟩, EK.out⟩
              | false =>
                by_cases hyi : y = idv
                · have HT1 := Lib.hid (show ((needL (mOf lots size l)).take (k + 1)).any (fun n => decide (n = idv)) = true by rw [HTS.out, decide_eq_true hyi]; rfl)
                  have hyb : (y == idv) = true := by simp [hyi]
                  subst hyi
                  go_wp2
                  go_roundg (nn - (k + 1))
                  case measure => omega
                  case rel => exact ⟨k + 1, by omega, by omega, by simp, ⟨true, by first | rfl | simp, HT1.out⟩, EK.out⟩
                · have HT1 := Lib.hid (show ((needL (mOf lots size l)).take (k + 1)).any (fun n => decide (n = idv)) = false by rw [HTS.out, decide_eq_false hyi]; rfl)
                  have hyb : (y == idv) = false := by simpa using hyi
                  go_wp2
                  go_roundg (nn - (k + 1))
                  case measure => omega
                  case rel => exact ⟨k + 1, by omega, by omega, by simp, ⟨false, by first | rfl | simp, HT1.out⟩, EK.out⟩
            · have HTE := Lib.hid (show t = true by rw [← TK.out, List.take_of_length_le (by have := HNL.out; omega)]; exact HNA.out)
              obtain ⟨bp, offp, yb, rfl, hyb, -, hcb⟩ := P8.out.at_ hiI
              obtain rfl : yb = bb := by rw [HBB.out] at hyb; injection hyb with h; exact h.symm
              have cb := SlI.cell hcb (Ext.refl _ |>.trans EK.out)
              have HEE := Lib.hid (M.out.e.trans EK.out)
              rw [HTE.out]
              have hb0 : yb ≠ 0 := fun e => by have := HLFT.out (by rw [← e]; exact HBB.out); cases this
              have hb0b : (yb == 0) = false := by simpa using hb0
              clear hyb hcb x2'
              go_wp2
              go_ret
              exact ⟨rfl, HEE.out⟩
end Go.Proofs.YtkpengeaolcjhaaGreatDoor
