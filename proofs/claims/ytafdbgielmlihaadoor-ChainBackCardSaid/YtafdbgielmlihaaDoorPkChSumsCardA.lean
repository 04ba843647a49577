/- ChainSums, plain: what all get is nothing together; a price higher by one. -/
import Derived.Test.YtafdbgielmlihaaDoorPkChClosedCardO
import Derived.Test.YtafdbgielmlihaaDoorPkChClosedCardT
import Derived.Test.YtafdbgielmlihaaDoorPkChClosedCardN
import Derived.Test.YtafdbgielmlihaaDoorPkChClosedCardQ
namespace Go.Proofs.YtafdbgielmlihaaDoor
open Go.RowKit Go.Shelf
set_option linter.unusedSimpArgs false

theorem net_plus (v : Nat) : ∀ (S : List Sal) (m d e : List Int), m.length = S.length → d.length = S.length → e.length = S.length → (∀ (i : Nat) (a b : Int), m[i]? = some a → d[i]? = some b → e[i]? = some (a + b)) → net S e v = net S m v + net S d v
  | [], [], [], [], _, _, _, _ => by simp [net]
  | x :: S, a :: m, b :: d, z :: e, h1, h2, h3, h => by
    have h0 := h 0 a b rfl rfl
    simp at h0
    have := net_plus v S m d e (by simpa using h1) (by simpa using h2) (by simpa using h3) fun i a b ha hb => h (i + 1) a b ha hb
    simp only [net]
    rw [this, h0, Int.add_mul]
    omega
  | x :: S, [], _, _, h1, _, _, _ => by simp at h1
  | x :: S, _ :: _, [], _, _, h2, _, _ => by simp at h2
  | x :: S, _ :: _, _ :: _, [], _, _, h3, _ => by simp at h3
  | [], _ :: _, _, _, h1, _, _, _ => by simp at h1
  | [], [], _ :: _, _, _, h2, _, _ => by simp at h2
  | [], [], [], _ :: _, _, _, h3, _ => by simp at h3
/-- What does not move. -/
def stayL (c : Chn) (l : List Int) : List Int := (c.sales.zip l).map fun q => q.1.bales - q.2
theorem stayL_get {c : Chn} {l : List Int} {k : Nat} {x : Sale} {y : Int} (hx : c.sales[k]? = some x) (hy : l[k]? = some y) : (stayL c l)[k]? = some (x.bales - y) := by
  unfold stayL
  rw [List.getElem?_map, (List.getElem?_zip_eq_some (z := (x, y))).2 ⟨hx, hy⟩]
  rfl
theorem stayL_len {c : Chn} {l : List Int} (h : l.length = c.sales.length) : (stayL c l).length = c.sales.length := by
  unfold stayL
  rw [List.length_map, List.length_zip, h, Nat.min_self]
theorem pays_more {c : Chn} {l : List Int} (hl : l.length = c.sales.length) (p : Int) (v : Nat) : net (salsOf c) (payN c l (p + 1)) v = net (salsOf c) (payN c l p) v + net (salsOf c) (stayL c l) v := by
  refine net_plus v _ _ _ _ (by rw [payN_len hl, sals_len]) (by rw [stayL_len hl, sals_len]) (by rw [payN_len hl, sals_len]) fun i a b ha hb => ?_
  have hi : i < c.sales.length := by rw [← payN_len hl p]; exact (List.getElem?_eq_some_iff.1 ha).1
  have hx := List.getElem?_eq_getElem hi
  have hy := List.getElem?_eq_getElem (show i < l.length by omega)
  rw [payN_get hx hy] at ha
  rw [stayL_get hx hy] at hb
  rw [payN_get hx hy]
  injection ha with ha
  injection hb with hb
  subst ha hb
  congr 1
  have e : (c.sales[i].price - (p + 1)) * (c.sales[i].bales - l[i]) = (c.sales[i].price - p) * (c.sales[i].bales - l[i]) - (c.sales[i].bales - l[i]) := by
    rw [show c.sales[i].price - (p + 1) = (c.sales[i].price - p) - 1 by omega, Int.sub_mul, Int.one_mul]
  omega
theorem sumI_map (f : Nat → Int) (n : Nat) : sumI ((List.range n).map f) = sumN n f := by
  have app : ∀ (a b : List Int), sumI (a ++ b) = sumI a + sumI b := fun a => by
    induction a with
    | nil => intro b; simp [sumI]
    | cons x a ih => intro b; simp only [List.cons_append, sumI]; rw [ih]; omega
  induction n with
  | zero => simp [sumI, sumN]
  | succ n ih =>
    rw [List.range_succ, List.map_append, app, ih]
    simp [sumI, sumN]
theorem gets_zero {c : Chn} (hR : Right c) (m : List Int) : sumI (getsL c m) = 0 := by
  unfold getsL
  rw [sumI_map]
  exact net_total (sals_lt hR) m
theorem gets_get {c : Chn} {m : List Int} {v : Nat} {y : Int} (h : (getsL c m)[v]? = some y) : v < c.houses.length ∧ y = net (salsOf c) m v := by
  unfold getsL at h
  rw [List.getElem?_map] at h
  obtain ⟨z, hz, rfl⟩ := Option.map_eq_some_iff.1 h
  obtain ⟨hz1, hz2⟩ := List.getElem?_eq_some_iff.1 hz
  simp at hz1 hz2
  subst hz2
  exact ⟨hz1, rfl⟩
theorem gets_at {c : Chn} {m : List Int} {v : Nat} (h : v < c.houses.length) : (getsL c m)[v]? = some (net (salsOf c) m v) := by
  simp [getsL, h]
theorem getsZ_len (c : Chn) (m : List Int) : (getsL c m).length = c.houses.length := by simp [getsL]
theorem owed_bd {c : Chn} (hR : Right c) (hN : c.sales.length ≤ 10) (v : Nat) : -100 ≤ net (salsOf c) (balesOf c) v ∧ net (salsOf c) (balesOf c) v ≤ 100 := by
  have h1 := net_bd (B := 9) v (by decide) (salsOf c) (balesOf c) fun z hz => by
    unfold balesOf at hz
    obtain ⟨x, hx, rfl⟩ := List.mem_map.1 hz
    have := (hR.sale x hx).2.2.2.1
    omega
  have h2 : (balesOf c).length = c.sales.length := by simp [balesOf]
  omega
theorem pays_bd {c : Chn} {l : List Int} (hR : Right c) (hN : c.sales.length ≤ 10) (hl : Closes c l) {p : Int} (hp : 0 ≤ p ∧ p ≤ 1000000) (v : Nat) : -100000000 ≤ net (salsOf c) (payN c l p) v ∧ net (salsOf c) (payN c l p) v ≤ 100000000 := by
  have h1 := net_bd (B := 9000000) v (by decide) (salsOf c) (payN c l p) fun z hz => by
    obtain ⟨i, hi⟩ := List.getElem?_of_mem hz
    have hlt : i < c.sales.length := by rw [← payN_len hl.len p]; exact (List.getElem?_eq_some_iff.1 hi).1
    have hx := List.getElem?_eq_getElem hlt
    have hy := List.getElem?_eq_getElem (show i < l.length by rw [hl.len]; exact hlt)
    rw [payN_get hx hy] at hi
    injection hi with hi
    have b1 := hl.bd i _ _ hx hy
    obtain ⟨-, -, -, b2, b3⟩ := hR.sale _ (List.getElem_mem hlt)
    have hll := hl.len
    have hil : i < l.length := by omega
    have := mul_bd (a := c.sales[i].price - p) (b := c.sales[i].bales - l[i]) (A := 1000000) (B := 9) (by omega) (by omega) (by omega)
    omega
  have h2 : (payN c l p).length = c.sales.length := payN_len hl.len p
  omega
end Go.Proofs.YtafdbgielmlihaaDoor
/- The law ChainSums: the walk. -/
namespace Go.Proofs.YtafdbgielmlihaaDoor
open Go.RowKit Go.Shelf Go.Lib
set_option maxRecDepth 100000
set_option linter.unusedSimpArgs false

theorem owed_gets {c : Chn} (h : checkP c = true) : owedL c = getsL c (balesOf c) := by unfold owedL; rw [if_pos h]
theorem payN_gets {c : Chn} {l : List Int} {p : Int} (h : checkP c = true) (hp : 0 ≤ p ∧ p ≤ 1000000) : paysL c l p = getsL c (payN c l p) ∧ paysE c p = 0 := by
  have hb : inB 0 1000000 p = true := inB_iff.2 hp
  unfold paysL paysE paysB
  rw [h, hb]
  exact ⟨rfl, rfl⟩
theorem ownM_own {w : World} {base : Nat} {v : Value} {l : List Int} (h : Own encI 3 1 w base v l) : OwnM base v l w := by
  rcases rowX_own h with ⟨rfl, rfl⟩ | ⟨g, k, rfl, h1, h2, h3, h4⟩
  · exact ⟨none, 0, 0, rfl, Nat.le_refl _, Nat.zero_le _, fun h => absurd h (by simp)⟩
  · exact ⟨_, k, g, rfl, h2, h3, fun _ => ⟨rfl, h1, h4⟩⟩
/-- What does not move, counted for the first sales. -/
def stayTo (c : Chn) (l : List Int) (k : Nat) : List Int := (stayL c l).take k ++ (balesOf c).drop k
theorem stayTo_at {c : Chn} {l : List Int} (h : l.length = c.sales.length) {k : Nat} {x : Sale} (hx : c.sales[k]? = some x) : (stayTo c l k)[k]? = some x.bales := by
  have h1 := stayL_len h
  have hk := (List.getElem?_eq_some_iff.1 hx).1
  unfold stayTo
  rw [List.getElem?_append_right (by rw [List.length_take]; omega), List.length_take, List.getElem?_drop, show k + (k - min k (stayL c l).length) = k by omega]
  unfold balesOf
  rw [List.getElem?_map, hx]; rfl
theorem stayTo_set {c : Chn} {l : List Int} (h : l.length = c.sales.length) {k : Nat} {x : Sale} {y : Int} (hx : c.sales[k]? = some x) (hy : l[k]? = some y) : (stayTo c l k).set k (x.bales - y) = stayTo c l (k + 1) := by
  have h1 := stayL_len h
  have h2 := bales_len c
  have hk := (List.getElem?_eq_some_iff.1 hx).1
  have h3 := stayL_get hx hy
  unfold stayTo
  rw [List.set_append_right _ _ (by rw [List.length_take]; omega), List.length_take, show k - min k (stayL c l).length = 0 by omega, List.drop_eq_getElem_cons (by omega), List.set_cons_zero, List.take_add_one, h3]
  simp
theorem stayTo_all {c : Chn} {l : List Int} (h : l.length = c.sales.length) : stayTo c l c.sales.length = stayL c l := by
  have h1 := stayL_len h
  have h2 := bales_len c
  unfold stayTo
  rw [List.take_of_length_le (by omega), List.drop_of_length_le (by omega), List.append_nil]
set_option maxHeartbeats 8000000 in
theorem sumsLaw_of (hA : AliveT) (c : Chn) (price : Int) (hv sv : Value) (w : World) (hT : Tab w) (hh : SlI w hv c.houses) (hs : SlL w sv c.sales) (hp0 : 0 ≤ price ∧ price ≤ 4294967295) :
    Calls Tryd.prog 13 #[valC hv sv, .int .u32 price] w fun e w' => e = .returned (.bool true) ∧ Ext w w' := by
  have HT := Lib.hid hT; have HH := Lib.hid hh; have HS := Lib.hid hs
  obtain ⟨A, n, cp, rfl, hn, hlc, hcm⟩ := hh.form
  obtain ⟨A2, n2, cp2, rfl, hn2, hlc2, hcm2⟩ := hs.form
  obtain ⟨l, hcl⟩ := closeOf_exists c
  have HCL := Lib.hid hcl; have HP0 := Lib.hid hp0
  have B0 := Lib.hid (show Blk (w.alloc (.cells #[.slice A n cp, .slice A2 n2 cp2] 25)) w.heap.size 25 #[.slice A n cp, .slice A2 n2 cp2] from Blk.new _ _ _)
  have E0 := Lib.hid (Ext.al w (.cells #[.slice A n cp, .slice A2 n2 cp2] 25))
  clear hh hs hT hcl hp0
  go_enter Tryd.func13, Tryd.ntmps13
  go_wp2_with fail
  refine (hA _ (HT.out.ext E0.out)).mono ?_
  rintro e w1 ⟨rfl, hE⟩
  replace E0 := Lib.hid (E0.out.trans hE); replace B0 := Lib.hid (B0.out.ext hE); clear hE
  have t0 := B0.out.c2
  go_wp2_with fail
  refine (ready_any c _ _ _ (HH.out.ext E0.out) (HS.out.ext E0.out)).mono ?_
  rintro e w2 ⟨rfl, hE⟩
  replace E0 := Lib.hid (E0.out.trans hE); replace B0 := Lib.hid (B0.out.ext hE); clear hE t0
  cases hc : checkP c with
  | false =>
    clear hc
    go_wp2
    go_ret
    exact ⟨rfl, E0.out⟩
  | true =>
    have HC := Lib.hid hc; clear hc
    have HR := Lib.hid (check_right HC.out).1
    have HN := Lib.hid (check_right HC.out).2
    have HO := Lib.hid (HCL.out.1 HC.out)
    have HK := Lib.hid (closes_close HO.out)
    have t0 := B0.out.c2
    obtain ⟨p, hp⟩ : ∃ p, price.tmod 1000000 = p := ⟨_, rfl⟩
    have hp1 : 0 ≤ p ∧ p < 1000000 := by
      rw [← hp, Int.tmod_eq_emod_of_nonneg HP0.out.1]
      omega
    have HPP := Lib.hid hp1
    have hw : IntKind.i64.wrap price = price := by rw [IntKind.wrap_i64]; have := HP0.out; omega
    have hw1 : IntKind.i64.wrap (p + 1) = p + 1 := by rw [IntKind.wrap_i64]; omega
    have hw2 : IntKind.i64.wrap p = p := by rw [IntKind.wrap_i64]; omega
    go_wp2_with fail
    refine (owed_any c _ _ _ (HT.out.ext E0.out) (HH.out.ext E0.out) (HS.out.ext E0.out) (by have := HN.out; omega)).mono ?_
    rintro e w4 ⟨⟨v7, rfl, hu⟩, hE⟩
    rw [HC.out]
    dsimp only [errB, if_true]
    replace E0 := Lib.hid (E0.out.trans hE); replace B0 := Lib.hid (B0.out.ext hE)
    have O := Lib.hid hu; clear hE hu t0
    have t0 := B0.out.c2
    go_wp2_with fail
    refine (pays_any c l p _ _ _ HCL.out (HT.out.ext E0.out) (HH.out.ext E0.out) (HS.out.ext E0.out) (by have := HN.out; omega)).mono ?_
    rintro e w5 ⟨⟨v9, rfl, hu⟩, hE⟩
    rw [(payN_gets (l := l) HC.out (p := p) (by have := HPP.out; omega)).2]
    rw [(payN_gets (l := l) HC.out (p := p) (by have := HPP.out; omega)).1] at hu
    replace E0 := Lib.hid (E0.out.trans hE); replace B0 := Lib.hid (B0.out.ext hE); replace O := Lib.hid (O.out.ext hE)
    have PA := Lib.hid hu; clear hE hu t0
    have t0 := B0.out.c2
    go_wp2_with fail
    refine (pays_any c l (p + 1) _ _ _ HCL.out (HT.out.ext E0.out) (HH.out.ext E0.out) (HS.out.ext E0.out) (by have := HN.out; omega)).mono ?_
    rintro e w6 ⟨⟨v11, rfl, hu⟩, hE⟩
    rw [(payN_gets (l := l) HC.out (p := p + 1) (by have := HPP.out; omega)).2]
    rw [(payN_gets (l := l) HC.out (p := p + 1) (by have := HPP.out; omega)).1] at hu
    replace E0 := Lib.hid (E0.out.trans hE); replace B0 := Lib.hid (B0.out.ext hE); replace O := Lib.hid (O.out.ext hE); replace PA := Lib.hid (PA.out.ext hE)
    have PB := Lib.hid hu; clear hE hu t0
    have t0 := B0.out.c2
    go_wp2_with fail
    refine (close_any c l _ _ _ HCL.out (HT.out.ext E0.out) (HH.out.ext E0.out) (HS.out.ext E0.out) (by have := HN.out; omega)).mono ?_
    rintro e w7 ⟨⟨v13, rfl, hu⟩, hE⟩
    rw [HC.out]
    dsimp only [errB, if_true]
    replace E0 := Lib.hid (E0.out.trans hE); replace B0 := Lib.hid (B0.out.ext hE); replace O := Lib.hid (O.out.ext hE); replace PA := Lib.hid (PA.out.ext hE); replace PB := Lib.hid (PB.out.ext hE)
    have L := Lib.hid hu; clear hE hu t0
    have t0 := B0.out.c2
    obtain ⟨Aa, na, ca, rfl, hna, -, -⟩ := PA.out.form
    obtain ⟨Ab, nb, cb, rfl, hnb, -, -⟩ := PB.out.form
    have ea : na = n := by have := hna.out; have := hn.out; rw [getsZ_len] at *; omega
    have eb : nb = n := by have := hnb.out; have := hn.out; rw [getsZ_len] at *; omega
    subst ea eb
    go_wp2_with fail
    refine (closes_any c l _ _ _ _ HK.out HR.out HN.out (HH.out.ext E0.out) (HS.out.ext E0.out) L.out).mono ?_
    rintro e w8 ⟨rfl, hE⟩
    replace E0 := Lib.hid (E0.out.trans hE); replace B0 := Lib.hid (B0.out.ext hE); replace O := Lib.hid (O.out.ext hE); replace PA := Lib.hid (PA.out.ext hE); replace PB := Lib.hid (PB.out.ext hE); replace L := Lib.hid (L.out.ext hE)
    clear hE t0
    obtain ⟨A4, n4, c4, rfl, hn4, -, -⟩ := L.out.form
    have e4 : n2 = n4 := by have := hn2.out; have := hn4.out; have := HK.out.len; omega
    subst e4
    clear hn4
    obtain ⟨Ao, no, co, rfl, hno, -, -⟩ := O.out.form
    rw [owed_gets HC.out] at O
    have eo : no = nb := by have := hno.out; have := hn.out; rw [owed_gets HC.out, getsZ_len] at *; omega
    subst eo
    go_wp2
    go_loopg [95] no (fun gg s wr => ∃ kk : Nat, kk ≤ no ∧ no - kk ≤ gg ∧ s = .int .i64 kk ∧ Aside (Ext w8 wr))
    case atStart => exact ⟨0, Nat.zero_le _, by omega, rfl, Ext.refl _⟩
    case round =>
      obtain ⟨kk, hle, hm2, rfl, EX⟩ := hrel
      have EX := Lib.hid EX.out
      by_cases hlt : kk < no
      · have hltz : (kk : Int) < (no : Int) := by omega
        obtain ⟨ba, fa, xa, rfl, hxa, -, hca⟩ := PA.out.at_ hlt
        obtain ⟨bo, fo, xo, rfl, hxo, -, hco⟩ := O.out.at_ hlt
        have g1 := (gets_get hxa).2
        have g2 := (gets_get hxo).2
        have q1 := pays_bd HR.out HN.out HK.out (p := p) (by have := HPP.out; omega) kk
        have q2 := owed_bd HR.out HN.out kk
        rw [← g1] at q1
        rw [← g2] at q2
        have n1 : ¬ xa < -100000000 := by omega
        have n2' : ¬ 100000000 < xa := by omega
        have n3 : ¬ xo < -100 := by omega
        have n4 : ¬ 100 < xo := by omega
        have r0 : wr.cell? ⟨ba, fa + kk, none⟩ = some (.int .i64 xa) := by simpa using hca wr EX.out 0 _ rfl
        have r1 : wr.cell? ⟨bo, fo + kk, none⟩ = some (.int .i64 xo) := by simpa using hco wr EX.out 0 _ rfl
        clear hxa hxo hca hco g1 g2 q1 q2
        go_wp2
        go_roundg (no - (kk + 1))
        case measure => omega
        case rel => exact ⟨kk + 1, by omega, by omega, by simp, EX.out⟩
      · obtain ⟨wx, hwx⟩ : ∃ wx, wx = wr := ⟨_, rfl⟩
        subst hwx
        replace E0 := Lib.hid (E0.out.trans EX.out); replace B0 := Lib.hid (B0.out.ext EX.out); replace O := Lib.hid (O.out.ext EX.out); replace PA := Lib.hid (PA.out.ext EX.out); replace PB := Lib.hid (PB.out.ext EX.out); replace L := Lib.hid (L.out.ext EX.out)
        clear EX
        have t0 := B0.out.c2
        go_wp2_with fail
        refine (f66_any c _ _ wx (HH.out.ext E0.out) (HS.out.ext E0.out) (by have := HN.out; omega)).mono ?_
        rintro e w9 ⟨⟨v17, rfl, ho⟩, hE⟩
        obtain ⟨A17, c17, g17, rfl, k1, k2, k3⟩ := ownM_own ho
        have e17 : (balesOf c).length = n2 := by have := hn2.out; rw [bales_len]; omega
        rw [e17] at k1 k3 ⊢
        have K3 := Lib.hid k3
        have E9 := Lib.hid hE
        clear hE t0 ho k3
        have HLN := Lib.hid HK.out.len
        go_wp2
        go_loopg [129] n2 (fun gg s wr => ∃ kk : Nat, kk ≤ n2 ∧ n2 - kk ≤ gg ∧ s = .int .i64 kk ∧ Aside (Ext wx wr) ∧ Aside (0 < n2 → RowX wr g17 (stayTo c l kk)))
        case atStart => exact ⟨0, Nat.zero_le _, by omega, rfl, E9.out, fun h => by simpa [stayTo] using (K3.out h).2.2⟩
        case round =>
          obtain ⟨kk, hle, hm2, rfl, EX, RW⟩ := hrel
          have EX := Lib.hid EX.out
          have RW := Lib.hid RW.out
          by_cases hlt : kk < n2
          · have hltz : (kk : Int) < (n2 : Int) := by omega
            have h0 : 0 < n2 := by omega
            obtain ⟨e1, e2, -⟩ := K3.out h0
            subst e1
            have RX := Lib.hid (RW.out h0)
            obtain ⟨b, off, x, rfl, hx, -, -⟩ := HS.out.at_ hlt
            obtain ⟨b4, off4, y, rfl, hy, -, hcy⟩ := L.out.at_ hlt
            have HST := Lib.hid (stayTo_set HLN.out hx hy)
            have HAT := Lib.hid (stayTo_at HLN.out hx (l := l))
            have hbd := HK.out.bd kk x y hx hy
            have hbx := (HR.out.sale x (List.mem_of_getElem? hx)).2.2.2.1
            have hwb : IntKind.i64.wrap (x.bales - y) = x.bales - y := by rw [IntKind.wrap_i64]; omega
            have m0 := fun W (h : Ext wr W) => (show W.cell? ⟨b4, off4 + kk, none⟩ = some (.int .i64 y) by simpa using hcy W (EX.out.trans h) 0 _ rfl)
            have m1 := fun W (h : Ext wr W) => (show W.cell? ⟨g17, kk, none⟩ = some (.int .i64 x.bales) from (RX.out.ext h).cell HAT.out)
            clear hx hy hcy hbd hbx
            go_wp2
            refine wp_region_tame_cut (fun W => Ext wr W) (fun W W' => Ext W W') (by kernel_rfl) 177 rfl _ rfl (by decide +kernel) (by decide +kernel) (by decide +kernel) rfl (Ext.refl _).drew ?_
            simp only [List.dropLast]
            repeat (apply tame_q rfl; (intro ρ W hC hr hD; (obtain ⟨hrc, hrg, hrf, hrs⟩ := hr); (simp [go_sem] at hD); go_simp; first | exact ⟨⟨hC, Ext.refl _⟩, rfl⟩ | exact ⟨⟨hC, RS.refl _⟩, rfl⟩ | exact rfl); simp only [List.nil_append, List.cons_append])
            refine tame_end_put rfl rfl (fun ρ W hC hr hF => ?_)
            simp [go_sem] at hF
            simp only [putF, hF, List.set_cons_succ, List.set_cons_zero]
            clear hF hr
            have RX2 := Lib.hid (RX.out.ext hC)
            have EX2 := Lib.hid (EX.out.trans hC)
            have r0 := RX2.out.cell HAT.out
            have rf := RX2.out.frozen
            have rl := RX2.out.lt
            clear m0 m1 hC
            go_wp2
            go_roundg (n2 - (kk + 1))
            case measure => omega
            case rel => exact ⟨kk + 1, by omega, by omega, by simp, EX2.out.setCell (by dsimp only; exact e2) _, fun _ => by rw [← HST.out]; exact RX2.out.set _ _⟩
          · have hkk : kk = n2 := by omega
            subst hkk
            obtain ⟨wy, hwy⟩ : ∃ wy, wy = wr := ⟨_, rfl⟩
            subst hwy
            replace E0 := Lib.hid (E0.out.trans EX.out); replace B0 := Lib.hid (B0.out.ext EX.out); replace O := Lib.hid (O.out.ext EX.out); replace PA := Lib.hid (PA.out.ext EX.out); replace PB := Lib.hid (PB.out.ext EX.out)
            have HSL := Lib.hid (stayL_len HLN.out)
            have ST := Lib.hid (show SlI wy (.slice A17 kk c17) (stayL c l) by
              have e := stayTo_all HLN.out
              have e2 : (stayL c l).length = kk := by have := HSL.out; have := hn2.out; omega
              by_cases h0 : 0 < kk
              · obtain ⟨e1, -, -⟩ := K3.out h0
                subst e1
                have hx := RW.out h0
                rw [hn2.out, e] at hx
                have := hx.sl (c := c17) (by omega) k2
                rwa [e2] at this
              · have : stayL c l = [] := List.eq_nil_of_length_eq_zero (by omega)
                rw [this]
                have : kk = 0 := by omega
                subst this
                exact ⟨A17, c17, rfl, Nat.zero_le _, k2, fun h => absurd h (by simp)⟩)
            clear EX RW K3 L
            have t0 := B0.out.c2
            go_wp2_with fail
            refine (refGets_any c (stayL c l) _ _ _ _ (HH.out.ext E0.out) (HS.out.ext E0.out) ST.out HR.out (by have := HN.out; omega) HSL.out (fun y hy => by
              obtain ⟨i, hi⟩ := List.getElem?_of_mem hy
              have h1 : i < c.sales.length := by rw [← HSL.out]; exact (List.getElem?_eq_some_iff.1 hi).1
              have h2 := HLN.out
              have hx := List.getElem?_eq_getElem h1
              have hyy := List.getElem?_eq_getElem (show i < l.length by omega)
              rw [stayL_get hx hyy] at hi
              injection hi with hi
              have b1 := HK.out.bd i _ _ hx hyy
              have b2 := (HR.out.sale _ (List.getElem_mem h1)).2.2.2.1
              omega)).mono ?_
            rintro e w10 ⟨⟨g68, rfl, -, hu⟩, hE⟩
            replace E0 := Lib.hid (E0.out.trans hE); replace B0 := Lib.hid (B0.out.ext hE); replace O := Lib.hid (O.out.ext hE); replace PA := Lib.hid (PA.out.ext hE); replace PB := Lib.hid (PB.out.ext hE)
            have h6 := HR.out.h6
            have G := Lib.hid (hu.sl (by unfold maxLen; simp [getsL]; omega))
            have eg : (getsL c (stayL c l)).length = no := by have := hn.out; rw [getsZ_len]; omega
            rw [eg] at G ⊢
            clear hE hu h6 ST t0
            go_wp2
            go_loopg [148] no (fun gg s wr => ∃ kk : Nat, kk ≤ no ∧ no - kk ≤ gg ∧ s = .int .i64 kk ∧ Aside (Ext w10 wr))
            case atStart => exact ⟨0, Nat.zero_le _, by omega, rfl, Ext.refl _⟩
            case round =>
              obtain ⟨jj, hle, hm2, rfl, EX⟩ := hrel
              have EX := Lib.hid EX.out
              by_cases hlt : jj < no
              · have hltz : (jj : Int) < (no : Int) := by omega
                obtain ⟨ba, fa, xa, rfl, hxa, -, hca⟩ := PA.out.at_ hlt
                obtain ⟨bb, fb, xb, rfl, hxb, -, hcb⟩ := PB.out.at_ hlt
                obtain ⟨bg, fg, xg, eG, hxg, -, hcg⟩ := G.out.at_ hlt
                cases eG
                have g1 := (gets_get hxa).2
                have g2 := (gets_get hxb).2
                have g3 := (gets_get hxg).2
                have q1 := pays_bd HR.out HN.out HK.out (p := p) (by have := HPP.out; omega) jj
                have q2 := pays_bd HR.out HN.out HK.out (p := p + 1) (by have := HPP.out; omega) jj
                have q3 := pays_more HLN.out p jj
                have qe : xb = xa + xg := by rw [g1, g2, g3]; exact q3
                rw [← g1] at q1
                rw [← g2] at q2
                subst qe
                have hwg : IntKind.i64.wrap (xa + xg) = xa + xg := by rw [IntKind.wrap_i64]; omega
                have m0 := fun W (h : Ext wr W) => (show W.cell? ⟨ba, fa + jj, none⟩ = some (.int .i64 xa) by simpa using hca W (EX.out.trans h) 0 _ rfl)
                have m1 := fun W (h : Ext wr W) => (show W.cell? ⟨bb, fb + jj, none⟩ = some (.int .i64 (xa + xg)) by simpa using hcb W (EX.out.trans h) 0 _ rfl)
                have m2 := fun W (h : Ext wr W) => (show W.cell? ⟨g68, jj, none⟩ = some (.int .i64 xg) by simpa using hcg W (EX.out.trans h) 0 _ rfl)
                clear hxa hxb hxg hca hcb hcg g1 g2 g3 q1 q2 q3
                go_wp2
                refine wp_region_tame (fun W => Ext wr W) (fun W W' => Ext W W') (by kernel_rfl) 177 rfl (by decide +kernel) (Ext.refl _).drew ?_
                repeat (apply tame_q rfl; (intro ρ W hC hr hD; (obtain ⟨hrc, hrg, hrf, hrs⟩ := hr); (simp [go_sem] at hD); go_simp; first | exact ⟨⟨hC, Ext.refl _⟩, rfl⟩ | exact ⟨⟨hC, RS.refl _⟩, rfl⟩ | exact rfl); simp only [List.nil_append, List.cons_append])
                refine tame_end_put rfl rfl (fun ρ W hC hr hF => ?_)
                simp [go_sem] at hF
                simp only [putF, hF, List.set_cons_succ, List.set_cons_zero]
                clear hF hr
                have EF := Lib.hid (EX.out.trans hC)
                clear hC m0 m1 m2
                go_wp2
                go_roundg (no - (jj + 1))
                case measure => omega
                case rel => exact ⟨jj + 1, by omega, by omega, by simp, EF.out⟩
              · replace E0 := Lib.hid (E0.out.trans EX.out); replace O := Lib.hid (O.out.ext EX.out); replace PA := Lib.hid (PA.out.ext EX.out)
                go_wp2_with fail
                refine (lawSum_any _ _ _ O.out (by have := HR.out.h6; rw [getsZ_len]; omega) (fun y hy => by
                  obtain ⟨i, hi⟩ := List.getElem?_of_mem hy
                  have := owed_bd HR.out HN.out i
                  rw [(gets_get hi).2]; omega)).mono ?_
                rintro e w11 ⟨rfl, hE⟩
                replace E0 := Lib.hid (E0.out.trans hE); replace PA := Lib.hid (PA.out.ext hE)
                clear hE
                rw [gets_zero HR.out]
                go_wp2_with fail
                refine (lawSum_any _ _ _ PA.out (by have := HR.out.h6; rw [getsZ_len]; omega) (fun y hy => by
                  obtain ⟨i, hi⟩ := List.getElem?_of_mem hy
                  have := pays_bd HR.out HN.out HK.out (p := p) (by have := HPP.out; omega) i
                  rw [(gets_get hi).2]; omega)).mono ?_
                rintro e w12 ⟨rfl, hE⟩
                replace E0 := Lib.hid (E0.out.trans hE)
                clear hE
                rw [gets_zero HR.out]
                go_wp2
                go_ret
                exact ⟨rfl, E0.out⟩
end Go.Proofs.YtafdbgielmlihaaDoor
