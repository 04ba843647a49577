/- ChainWay, plain: who goes by sales from house to house never comes before the way that is told. -/
import Derived.Test.YtafdbgielmlihaaDoorPkChLeastCardO
import Derived.Test.YtafdbgielmlihaaDoorPkChLeastCardU
import Derived.Test.YtafdbgielmlihaaDoorPkChLeastCardC
import Derived.Test.YtafdbgielmlihaaDoorPkChLeastCardN
import Derived.Test.YtafdbgielmlihaaDoorPkChLeastCardL
namespace Go.Proofs.YtafdbgielmlihaaDoor
open Go.RowKit Go.Shelf
set_option linter.unusedSimpArgs false
set_option linter.unusedVariables false

/-- Sales, by numbers, that lead from a house to t. -/
def GoesN (c : Chn) (t : Int) : Int → List Int → Prop
  | a, [] => a = t
  | a, k :: g => ∃ x, x ∈ c.sales ∧ x.seller = a ∧ x.number = k ∧ GoesN c t x.buyer g
theorem goesN_to {c : Chn} {t : Int} : ∀ {g : List Int} {a : Int}, GoesN c t a g → toB c t g.length a = true
  | [], a, h => by
    have h : a = t := h
    simp [toB, h]
  | k :: g, a, ⟨x, hx, hs, _, h⟩ => toB_succ.2 (.inr ⟨x, hx, hs, goesN_to h⟩)
theorem goesN_snoc {c : Chn} {x : Sale} (hx : x ∈ c.sales) : ∀ {g : List Int} {a : Int}, GoesN c x.seller a g → GoesN c x.buyer a (g ++ [x.number])
  | [], a, h => ⟨x, hx, Eq.symm h, rfl, rfl⟩
  | k :: g, a, ⟨y, hy, hs, hk, h⟩ => ⟨y, hy, hs, hk, goesN_snoc hx h⟩
/-- A list comes before another one. -/
def aheadL : List Int → List Int → Bool
  | x :: a, y :: b => if x ≠ y then decide (x < y) else aheadL a b
  | _, _ => false
theorem sale_lt {c : Chn} (hR : Right c) {i j : Nat} {x y : Sale} (hx : c.sales[i]? = some x) (hy : c.sales[j]? = some y) (h : i < j) : x.number < y.number := by
  have hp := rising_pair hR.sr
  rw [List.pairwise_map] at hp
  obtain ⟨hi, rfl⟩ := List.getElem?_eq_some_iff.1 hx
  obtain ⟨hj, rfl⟩ := List.getElem?_eq_some_iff.1 hy
  exact List.pairwise_iff_getElem.1 hp i j hi hj h
theorem wayG_succ {c : Chn} {t v : Int} {k : Nat} {z : Sale} (h : c.sales.find? (nearB c t v k) = some z) : wayG c t (k + 1) v = z.number :: wayG c t k z.buyer := by
  rw [wayG, h]
theorem goesN_least {c : Chn} (hR : Right c) {t : Int} : ∀ {d : Nat} {a : Int} {g : List Int}, Away c t d a → GoesN c t a g → g.length = d → aheadL g (wayG c t d a) = false
  | 0, a, [], _, _, _ => rfl
  | 0, a, _ :: _, _, _, h => by simp at h
  | d + 1, a, [], _, _, h => by simp at h
  | d + 1, a, k :: g, hA, ⟨x, hx, hs, hk, hg⟩, hl => by
    obtain ⟨i, z, hi, hf, hn, hmin, hA2⟩ := away_step hA
    rw [wayG_succ hf]
    have hgl : g.length = d := by simpa using hl
    have hxn : nearB c t a d x = true := by
      unfold nearB
      rw [← hgl, goesN_to hg, hs]
      simp
    obtain ⟨j, hj⟩ := List.getElem?_of_mem hx
    rcases Nat.lt_trichotomy j i with h1 | h1 | h1
    · rw [hmin j x h1 hj] at hxn; cases hxn
    · subst h1
      rw [hi] at hj
      injection hj with hj
      subst hj
      unfold aheadL
      rw [if_neg (by simp [hk])]
      exact goesN_least hR hA2 hg hgl
    · have := sale_lt hR hi hj h1
      unfold aheadL
      rw [if_pos (by omega)]
      simp
      omega
theorem way_goes {c : Chn} {t : Int} : ∀ {d : Nat} {a : Int}, Away c t d a → GoesN c t a (wayG c t d a) ∧ (wayG c t d a).length = d
  | 0, a, h => ⟨by simpa [toB, wayG, GoesN] using h.y, rfl⟩
  | d + 1, a, h => by
    obtain ⟨i, z, hi, hf, hn, -, hA2⟩ := away_step h
    rw [wayG_succ hf]
    obtain ⟨h1, h2⟩ := way_goes hA2
    unfold nearB at hn
    simp only [Bool.and_eq_true, decide_eq_true_eq] at hn
    exact ⟨⟨z, List.mem_of_getElem? hi, hn.1, rfl, h1⟩, by simp [h2]⟩
/-- **No way is shorter, or as long and before the way that is told.** -/
theorem way_first {c : Chn} (hR : Right c) {t a : Int} {d : Nat} (h : Away c t d a) {g : List Int} (hg : GoesN c t a g) : d ≤ g.length ∧ (g.length = d → aheadL g (wayG c t d a) = false) := by
  refine ⟨?_, fun e => goesN_least hR h hg e⟩
  apply Classical.byContradiction
  intro hn
  have := h.n g.length (by omega)
  rw [goesN_to hg] at this
  cases this
/-- One step of it. -/
theorem goesN_at {c : Chn} (hR : Right c) {t a k : Int} {g : List Int} (h : GoesN c t a (k :: g)) : ∃ (i : Nat) (x : Sale), c.sales[i]? = some x ∧ saleI c k = (i : Int) ∧ x.seller = a ∧ GoesN c t x.buyer g := by
  obtain ⟨x, hx, hs, rfl, hg⟩ := h
  obtain ⟨i, hi⟩ := List.getElem?_of_mem hx
  exact ⟨i, x, hi, saleI_at hR hi, hs, hg⟩
theorem wayOf_existsX (c : Chn) (a b : Int) : ∃ l E, WayOf c a b l E := by
  unfold WayOf
  split
  · split
    · by_cases h : ∃ k, toB c b k a = true
      · obtain ⟨k, hk⟩ := h
        obtain ⟨d, -, hd⟩ := away_exists hk
        exact ⟨_, _, .inl ⟨d, hd, rfl, rfl⟩⟩
      · refine ⟨_, _, .inr ⟨fun k => ?_, rfl, rfl⟩⟩
        cases hk : toB c b k a with
        | false => rfl
        | true => exact absurd ⟨k, hk⟩ h
    · exact ⟨_, _, rfl, rfl⟩
  · exact ⟨_, _, rfl, rfl⟩
end Go.Proofs.YtafdbgielmlihaaDoor
/- ChainWay: whether a list comes before another one as long. -/
namespace Go.Proofs.YtafdbgielmlihaaDoor
open Go.RowKit Go.Shelf Go.Lib
set_option maxRecDepth 100000
set_option linter.unusedSimpArgs false
set_option linter.unusedVariables false

theorem ahead_drop {a b : List Int} {k : Nat} {x y : Int} (hx : a[k]? = some x) (hy : b[k]? = some y) : aheadL (a.drop k) (b.drop k) = if x ≠ y then decide (x < y) else aheadL (a.drop (k + 1)) (b.drop (k + 1)) := by
  obtain ⟨hi, rfl⟩ := List.getElem?_eq_some_iff.1 hx
  obtain ⟨hj, rfl⟩ := List.getElem?_eq_some_iff.1 hy
  rw [List.drop_eq_getElem_cons hi, List.drop_eq_getElem_cons hj, aheadL]
set_option maxHeartbeats 2000000 in
theorem ahead_any (a b : List Int) (v v' : Value) (w : World) (h : SlI w v a) (h' : SlI w v' b) (hl : a.length = b.length) :
    Calls Tryd.prog 70 #[v, v'] w fun e w' => e = .returned (.bool (aheadL a b)) ∧ Ext w w' := by
  have H := Lib.hid h; have H' := Lib.hid h'
  obtain ⟨A, n, cp, rfl, hn, hlc, hcm⟩ := h.form
  obtain ⟨A2, n2, cp2, rfl, hn2, hlc2, hcm2⟩ := h'.form
  have e2 : n = n2 := by have := hn.out; have := hn2.out; omega
  subst e2
  clear h h' hl hn2
  go_enter Tryd.func70, Tryd.ntmps70
  go_wp2
  go_loopg [8] n (fun gg s wr => ∃ kk : Nat, kk ≤ n ∧ n - kk ≤ gg ∧ s = .int .i64 kk ∧ Aside (Ext w wr) ∧ Aside (aheadL (a.drop kk) (b.drop kk) = aheadL a b))
  case atStart => exact ⟨0, Nat.zero_le _, by omega, rfl, Ext.refl _, rfl⟩
  case round =>
    obtain ⟨kk, hle', hm2, rfl, EX, HA⟩ := hrel
    replace EX := Lib.hid EX.out; replace HA := Lib.hid HA.out
    by_cases hlt : kk < n
    · have hltz : (kk : Int) < (n : Int) := by omega
      obtain ⟨b1, o1, x, rfl, hx, -, hcx⟩ := H.out.at_ hlt
      obtain ⟨b2, o2, y, rfl, hy, -, hcy⟩ := H'.out.at_ hlt
      have HD := Lib.hid (ahead_drop hx hy)
      have m1 := fun W (h : Ext wr W) => (show W.cell? ⟨b1, o1 + kk, none⟩ = some (.int .i64 x) by simpa using hcx W (EX.out.trans h) 0 _ rfl)
      have m2 := fun W (h : Ext wr W) => (show W.cell? ⟨b2, o2 + kk, none⟩ = some (.int .i64 y) by simpa using hcy W (EX.out.trans h) 0 _ rfl)
      clear hcx hcy hx hy
      go_wp2
      refine wp_region_tame (fun W => Ext wr W) (fun W W' => Ext W W') (by kernel_rfl) 30 rfl (by decide +kernel) (Ext.refl _).drew ?_
      repeat (apply tame_q rfl; (intro ρ W hC hr hD; (obtain ⟨hrc, hrg, hrf, hrs⟩ := hr); (simp [go_sem] at hD); go_simp; first | exact ⟨⟨hC, Ext.refl _⟩, rfl⟩ | exact ⟨⟨hC, RS.refl _⟩, rfl⟩ | exact rfl); simp only [List.nil_append, List.cons_append])
      refine tame_end_put rfl rfl (fun ρ W hC hr hF => ?_)
      simp [go_sem] at hF
      simp only [putF, hF, List.set_cons_succ, List.set_cons_zero]
      clear hF hr
      obtain ⟨w2, hw2⟩ : ∃ w2, w2 = W := ⟨_, rfl⟩
      subst hw2
      have k1 := fun V (h : Ext w2 V) => m1 V (hC.trans h)
      have k2 := fun V (h : Ext w2 V) => m2 V (hC.trans h)
      replace EX := Lib.hid (EX.out.trans hC)
      clear m1 m2 hC
      by_cases hxy : x = y
      · have hb : (x == y) = true := by simp [hxy]
        have HE := Lib.hid hxy
        clear hxy k1 k2
        go_wp2
        go_roundg (n - (kk + 1))
        case measure => omega
        case rel => exact ⟨kk + 1, by omega, by omega, by simp, EX.out, by have h := HD.out; rw [if_neg (by simp [HE.out])] at h; exact h.symm.trans HA.out⟩
      · have hb : (x == y) = false := by simp [hxy]
        have HE := Lib.hid hxy
        clear hxy
        go_wp2
        refine wp_region_tame (fun W => Ext w2 W) (fun W W' => Ext W W') (by kernel_rfl) 30 rfl (by decide +kernel) (Ext.refl _).drew ?_
        repeat (apply tame_q rfl; (intro ρ W hC hr hD; (obtain ⟨hrc, hrg, hrf, hrs⟩ := hr); (simp [go_sem] at hD); go_simp; first | exact ⟨⟨hC, Ext.refl _⟩, rfl⟩ | exact ⟨⟨hC, RS.refl _⟩, rfl⟩ | exact rfl); simp only [List.nil_append, List.cons_append])
        refine tame_end_put rfl rfl (fun ρ W hC hr hF => ?_)
        simp [go_sem] at hF
        simp only [putF, hF, List.set_cons_succ, List.set_cons_zero]
        clear hF hr
        replace EX := Lib.hid (EX.out.trans hC)
        clear hC k1 k2
        go_wp2
        go_ret
        exact ⟨by rw [← HA.out, HD.out, if_pos HE.out]; rfl, EX.out⟩
    · have HE := Lib.hid (show kk = n by omega)
      go_wp2
      go_ret
      exact ⟨by rw [← HA.out, HE.out, hn.out, List.drop_length]; cases h : b.drop a.length <;> rfl, EX.out⟩
end Go.Proofs.YtafdbgielmlihaaDoor
/- The place of a sale by its number. -/
namespace Go.Proofs.YtafdbgielmlihaaDoor
open Go.RowKit Go.Shelf Go.Lib
set_option maxRecDepth 100000
set_option linter.unusedSimpArgs false

set_option maxHeartbeats 400000 in
theorem saleAt_any (c : Chn) (id : Int) (hv sv : Value) (w : World) (hh : SlI w hv c.houses) (hs : SlL w sv c.sales) :
    Calls Tryd.prog 69 #[valC hv sv, .int .i64 id] w fun e w' => e = .returned (.int .i64 (saleI c id)) ∧ Ext w w' := by
  have HS := Lib.hid hs
  obtain ⟨A2, n2, cp2, rfl, hn2, hlc2, hcm2⟩ := hh.form
  obtain ⟨A, n, cp, rfl, hn, hlc, hcm⟩ := hs.form
  clear hh hs
  go_enter Tryd.func69, Tryd.ntmps69
  go_wp2
  go_loopg [5] n (fun gg s wr => ∃ kk : Nat, kk ≤ n ∧ n - kk ≤ gg ∧ s = .int .i64 kk ∧ Aside (Ext (w.alloc (.cells #[.slice A2 n2 cp2, .slice A n cp] 25)) wr) ∧ Aside (∀ j (y : Sale), j < kk → c.sales[j]? = some y → decide (y.number = id) = false))
  case atStart => exact ⟨0, Nat.zero_le _, by omega, rfl, Ext.refl _, fun j y hj => absurd hj (Nat.not_lt_zero _)⟩
  case round =>
    obtain ⟨kk, hkk, hg, rfl, BW, FA⟩ := hrel
    obtain ⟨hc, hf, hz, -⟩ := BW.out.use
    simp at hz
    have hz1 : w.heap.size < wr.heap.size := by omega
    by_cases hlt : kk < n
    · have hltz : (kk : Int) < (n : Int) := by omega
      obtain ⟨b, off, y, rfl, hx, hb, hcell⟩ := HS.out.at_ hlt
      obtain ⟨c0, -⟩ := SlL.cells hcell ((Ext.al _ _).trans BW.out)
      have HX := Lib.hid hx; clear hx hcell hb
      by_cases hq : y.number = id
      · have HQ := Lib.hid (show decide (y.number = id) = true by simp [hq])
        go_wp2
        go_ret
        exact ⟨by unfold saleI; rw [idxF_some _ _ kk y HX.out HQ.out FA.out]; rfl, (Ext.al _ _).trans BW.out⟩
      · have HQ := Lib.hid (show decide (y.number = id) = false by simp [hq])
        go_wp2
        go_roundg (n - (kk + 1))
        case measure => omega
        case rel => exact ⟨kk + 1, by omega, by omega, by simp, BW.out, fun j z hj hz => by
          rcases Nat.lt_succ_iff_lt_or_eq.1 hj with h | rfl
          · exact FA.out j z h hz
          · rw [HX.out] at hz; cases hz; exact HQ.out⟩
    · have HE := Lib.hid (show kk = n by omega)
      go_wp2
      go_ret
      exact ⟨by unfold saleI; rw [idxF_none _ _ (fun x hx => by obtain ⟨j, hj⟩ := List.getElem?_of_mem hx; exact FA.out j x (by have := (List.getElem?_eq_some_iff.1 hj).1; have := HE.out; have := hn.out; omega) hj)]; rfl, (Ext.al _ _).trans BW.out⟩

end Go.Proofs.YtafdbgielmlihaaDoor
/- ChainWay: the walk behind the bales' going. -/
namespace Go.Proofs.YtafdbgielmlihaaDoor
open Go.RowKit Go.Shelf Go.Lib
set_option maxRecDepth 100000
set_option linter.unusedSimpArgs false
set_option linter.unusedVariables false

set_option maxHeartbeats 8000000 in
theorem way4_wp {c : Chn} {w W : World} {a0 : Act} {A A2 Al : Option Addr} {n cp n2 cp2 nl cl : Nat} {l : List Int} {fr th : Int} (hHH : SlI w (.slice A n cp) c.houses) (hHS : SlL w (.slice A2 n2 cp2) c.sales) (hR : Right c) (hN : c.sales.length ≤ 10)
    (hE0 : Ext w W) (hB0 : Blk W w.heap.size 25 #[.slice A n cp, .slice A2 n2 cp2]) (hL : SlI W (.slice Al nl cl) l) (hGo : GoesN c th fr l)
    (hF : Fr 176 [(4, .pointer (some ⟨w.heap.size, 0, none⟩)), (9, .bool true), (10, .int .i64 fr), (11, .int .i64 th), (12, .slice Al nl cl)] [] a0) :
    (subC [1, 1, 1, 1, 1, 1, 1, 1, 1, 1] (Tryd.f16.body.getD .skip)).wp Tryd.prog (bodyPost Tryd.prog Tryd.f16 fun e w' => e = .returned (.bool true) ∧ Ext w w') a0 W := by
  have HH := Lib.hid hHH; have HS := Lib.hid hHS; have HR := Lib.hid hR; have HN := Lib.hid hN; have E0 := Lib.hid hE0; have B0 := Lib.hid hB0; have L0 := Lib.hid hL; have GO := Lib.hid hGo
  obtain ⟨Al', nl', cl', e, hnl, hlc, hcl⟩ := hL.form
  injection e with e1 e2 e3
  subst e1 e2 e3
  obtain ⟨A2', n2', cp2', e, hn2, hlc2, hcp2⟩ := hHS.form
  injection e with e1 e2 e3
  subst e1 e2 e3
  clear hHH hHS hR hN hE0 hB0 hL hGo
  delta Tryd.f16
  simp only [subC, Option.getD_some]
  obtain ⟨ρ, rfl, hρ⟩ := hF.open_
  simp only [List.forall_mem_cons] at hρ
  obtain ⟨r4, r9, r10, r11, r12, -⟩ := hρ
  simp only [lst, Nat.reduceAdd, r4, r9, r10, r11, r12]
  clear r4 r9 r10 r11 r12 hF
  go_wp2
  go_loopg [14, 144] nl (fun gg q s wr => ∃ (kk : Nat) (a : Int), kk ≤ nl ∧ nl - kk ≤ gg ∧ s = .int .i64 kk ∧ q = .int .i64 a ∧ Aside (GoesN c th a (l.drop kk)) ∧ Aside (Ext W wr))
  case atStart => exact ⟨0, fr, Nat.zero_le _, by omega, rfl, rfl, GO.out, Ext.refl _⟩
  case round =>
    obtain ⟨kk, a, hle', hm2, rfl, rfl, HG, EX⟩ := hrel
    replace EX := Lib.hid EX.out; replace HG := Lib.hid HG.out
    by_cases hlt : kk < nl
    · have hltz : (kk : Int) < (nl : Int) := by omega
      obtain ⟨b1, o1, k, rfl, hk, -, hck⟩ := L0.out.at_ hlt
      have hg := HG.out
      have hkl := List.getElem?_eq_some_iff.1 hk
      obtain ⟨hkl, rfl⟩ := hkl
      rw [List.drop_eq_getElem_cons hkl] at hg
      obtain ⟨k, hkk⟩ : ∃ k, l[kk] = k := ⟨_, rfl⟩
      rw [hkk] at hg hck hk
      obtain ⟨i, x, hx, hsi, hxs, hgx⟩ := goesN_at HR.out hg
      have HX := Lib.hid hx; have HGX := Lib.hid hgx
      have hin : i < n2 := by have := (List.getElem?_eq_some_iff.1 hx).1; have := hn2.out; omega
      obtain ⟨b2, o2, x', rfl, hx', -, hcx⟩ := HS.out.at_ hin
      rw [hx] at hx'
      injection hx' with hx'
      subst hx'
      have ck : wr.cell? ⟨b1, o1 + kk, none⟩ = some (.int .i64 k) := by simpa using hck wr EX.out 0 _ rfl
      have t0 := (B0.out.ext EX.out).c2
      clear hx hg hgx hck hk hkk
      go_wp2_with fail
      clear t0 ck
      refine (saleAt_any c k _ _ _ (HH.out.ext (E0.out.trans EX.out)) (HS.out.ext (E0.out.trans EX.out))).mono ?_
      rintro e w2 ⟨rfl, hE⟩
      rw [hsi]
      replace EX := Lib.hid (EX.out.trans hE)
      clear hE
      have t0 := (B0.out.ext EX.out).c2
      obtain ⟨c0, c1, c2, c3, c4⟩ := SlL.cells hcx (E0.out.trans EX.out)
      have hnn : ¬ (i : Int) < 0 := by omega
      have hiz : (i : Int) < (n2 : Int) := by omega
      rw [hxs] at c1
      go_wp2
      go_roundg (nl - (kk + 1))
      case measure => omega
      case rel => exact ⟨kk + 1, x.buyer, by omega, by omega, by simp, rfl, HGX.out, EX.out⟩
    · have HE := Lib.hid (show kk = nl by omega)
      have ha : a = th := by
        have h := HG.out
        rw [HE.out, hnl.out, List.drop_length] at h
        exact h
      subst ha
      go_wp2
      go_ret
      exact ⟨by simp, E0.out.trans EX.out⟩

set_option maxHeartbeats 8000000 in
theorem way3_wp {c : Chn} {w W : World} {a0 : Act} {A A2 Al Ag : Option Addr} {n cp n2 cp2 nl cl ng cg : Nat} {l G : List Int} {fr th at_ E : Int} (hHH : SlI w (.slice A n cp) c.houses) (hHS : SlL w (.slice A2 n2 cp2) c.sales) (hR : Right c) (hN : c.sales.length ≤ 10)
    (hE0 : Ext w W) (hB0 : Blk W w.heap.size 25 #[.slice A n cp, .slice A2 n2 cp2]) (hL : SlI W (.slice Al nl cl) l) (hG : SlI W (.slice Ag ng cg) G) (hGo : GoesN c at_ fr G) (hng : ng = G.length)
    (hw : (∃ d, Away c th d fr ∧ l = wayG c th d fr ∧ E = 0) ∨ ((∀ k, toB c th k fr = false) ∧ l = [] ∧ E = 6))
    (hF : Fr 176 [(4, .pointer (some ⟨w.heap.size, 0, none⟩)), (9, .bool true), (10, .int .i64 fr), (11, .int .i64 th), (12, .slice Al nl cl), (13, .int .i64 E), (14, .int .i64 at_), (15, .int .i64 (ng : Int)), (16, .slice Ag ng cg)] [] a0) :
    (subC [1, 1, 1, 1, 1, 1, 1, 1] (Tryd.f16.body.getD .skip)).wp Tryd.prog (bodyPost Tryd.prog Tryd.f16 fun e w' => e = .returned (.bool true) ∧ Ext w w') a0 W := by
  have HH := Lib.hid hHH; have HS := Lib.hid hHS; have HR := Lib.hid hR; have HN := Lib.hid hN; have E0 := Lib.hid hE0; have B0 := Lib.hid hB0; have L0 := Lib.hid hL; have G0 := Lib.hid hG; have GO := Lib.hid hGo; have NG := Lib.hid hng
  clear hHH hHS hR hN hE0 hB0 hL hG hGo hng
  delta Tryd.f16
  simp only [subC, Option.getD_some]
  obtain ⟨ρ, rfl, hρ⟩ := hF.open_
  simp only [List.forall_mem_cons] at hρ
  obtain ⟨r4, r9, r10, r11, r12, r13, r14, r15, r16, -⟩ := hρ
  simp only [lst, Nat.reduceAdd, r4, r9, r10, r11, r12, r13, r14, r15, r16]
  clear r4 r9 r10 r11 r12 r13 r14 r15 r16 hF
  rcases hw with ⟨d, hA, hl, rfl⟩ | ⟨hno, -, rfl⟩
  · obtain ⟨hgo, hdl⟩ := way_goes hA
    rw [← hl] at hgo hdl
    obtain ⟨Al', nl', cl', e, hnl, -, -⟩ := L0.out.form
    injection e with e1 e2 e3
    subst e1 e2 e3
    have GL := Lib.hid hgo; have HNL := hnl
    have HF := Lib.hid (fun (e : at_ = th) => way_first HR.out hA (e ▸ GO.out))
    have HL := Lib.hid hl; have HDL := Lib.hid hdl
    clear hgo hnl hl hdl hA
    have HW4 : ∀ V, Ext W V → ∀ a0, Fr 176 [(4, .pointer (some ⟨w.heap.size, 0, none⟩)), (9, .bool true), (10, .int .i64 fr), (11, .int .i64 th), (12, .slice Al nl cl)] [] a0 →
      (subC [1, 1, 1, 1, 1, 1, 1, 1, 1, 1] (Tryd.f16.body.getD .skip)).wp Tryd.prog (bodyPost Tryd.prog Tryd.f16 fun e w' => e = .returned (.bool true) ∧ Ext w w') a0 V := fun V hV a0 hF => way4_wp (c := c) (w := w) (W := V) (l := l) HH.out HS.out HR.out HN.out (E0.out.trans hV) (B0.out.ext hV) (L0.out.ext hV) GL.out hF
    delta Tryd.f16 at HW4
    simp only [subC, Option.getD_some] at HW4
    replace HW4 := Lib.hid HW4
    by_cases hat : at_ = th
    · have HF2 := Lib.hid (HF.out hat)
      have hbe : (at_ == th) = true := by simp [hat]
      have h1 : ¬ (ng : Int) < (nl : Int) := by have := HF2.out.1; have := NG.out; have := HNL.out; have := HDL.out; omega
      have h2 : (nl : Int) ≤ (ng : Int) := by omega
      clear HF
      by_cases hnn : ng = nl
      · have hb2 : ((ng : Int) == (nl : Int)) = true := by simp [hnn]
        have HA2 := Lib.hid (show aheadL G l = false from by
          have h := HF2.out.2 (by have := NG.out; have := HNL.out; have := HDL.out; omega)
          rw [HL.out]; exact h)
        have HLL := Lib.hid (show G.length = l.length by have := NG.out; have := HNL.out; omega)
        clear hnn HF2
        go_wp2_with fail
        refine (ahead_any G l _ _ _ G0.out L0.out HLL.out).mono ?_
        rintro e w2 ⟨rfl, hE⟩
        rw [HA2.out]
        have EX := Lib.hid hE
        clear hE
        iterate 18 (first | go_values | go_skip | go_guarded | go_step | go_upon | go_back | (simp only [Int.not_lt, Int.not_le] at *; go_simp))
        exact HW4.out _ EX.out _ ⟨rfl, rfl, by simp [Act.eval]⟩
      · have hb2 : ((ng : Int) == (nl : Int)) = false := by simpa using fun e : (ng : Int) = nl => hnn (by omega)
        clear hnn
        iterate 79 (first | go_values | go_skip | go_guarded | go_step | go_upon | go_back | (simp only [Int.not_lt, Int.not_le] at *; go_simp))
        exact HW4.out _ (Ext.refl _) _ ⟨rfl, rfl, by simp [Act.eval]⟩
    · have hbe : (at_ == th) = false := by simp [hat]
      clear hat HF
      iterate 43 (first | go_values | go_skip | go_guarded | go_step | go_upon | go_back | (simp only [Int.not_lt, Int.not_le] at *; go_simp))
      exact HW4.out _ (Ext.refl _) _ ⟨rfl, rfl, by simp [Act.eval]⟩
  · have hne : ¬ at_ = th := fun e => by
      have h := goesN_to (e ▸ GO.out)
      rw [hno] at h
      cases h
    have hbe : (at_ == th) = false := by simp [hne]
    clear hno
    go_wp2
    go_ret
    exact ⟨by simp [hne], E0.out⟩
end Go.Proofs.YtafdbgielmlihaaDoor
