/- The law ChainStruck: what is owed where a house stopped (the second half of the walk). -/
import Derived.Test.YtafdbgielmlihaaDoorPkChClosedCardT
import Derived.Test.YtafdbgielmlihaaDoorPkChStruckCardA
import Derived.Test.YtafdbgielmlihaaDoorPkChClosedCardH
import Derived.Test.YtafdbgielmlihaaDoorPkChClosedCardE
import Derived.Test.YtafdbgielmlihaaDoorPkChStruckCardC
import Derived.Test.YtafdbgielmlihaaDoorPkChClosedCardL
import Derived.Test.YtafdbgielmlihaaDoorPkChStruckCardB
namespace Go.Proofs.YtafdbgielmlihaaDoor
open Go.RowKit Go.Shelf Go.Lib
set_option maxRecDepth 100000
set_option linter.unusedSimpArgs false

def FreshLB (B : Nat) (v : Value) (W : World) : Prop := ∃ g, v = .pointer (some ⟨g, 0, none⟩) ∧ B ≤ g ∧ Blk W g 68 #[.int .i64 0, .int .i64 0, .int .i64 0, .int .i64 0, .int .i64 0]
theorem FreshLB.ext {B : Nat} {v : Value} {W W' : World} (h : FreshLB B v W) (e : Ext W W') : FreshLB B v W' := by
  obtain ⟨g, h1, h2, h3⟩ := h; exact ⟨g, h1, h2, h3.ext e⟩
theorem putE_of (C : Chn) {E : Int} {D : Chn} {w : World} {e : Ending} {w' : World} (h : PutP E D w e w') (hE : E = 0) (hD : D = C) : ∃ v, e = .returned (.tuple #[v, .int .i64 0]) ∧ TwinC C w.heap.size v w' ∧ Ext w w' := by
  subst hE hD
  obtain ⟨⟨v, h1, h2⟩, h3⟩ := h
  exact ⟨v, h1, h2, h3⟩
theorem backL_snoc {c : Chn} {id : Int} {k : Nat} {y : Sale} (hy : c.sales[k]? = some y) (b : List Int) : backL c id (c.sales.take (k + 1)) b = backX c id (backL c id (c.sales.take k) b) y := by
  unfold backL
  rw [List.take_add_one, hy, List.foldl_append]
  rfl
theorem netB_bd {c : Chn} (hR : Right c) (v : Nat) {L : List Sale} (hL : ∀ x ∈ L, x ∈ c.sales) : -(9 * (L.length : Int)) ≤ netB c L v ∧ netB c L v ≤ 9 * L.length := by
  have := net_bd (B := 9) v (by decide) (L.map (salOf c)) (L.map (·.bales)) fun z hz => by
    obtain ⟨x, hx, rfl⟩ := List.mem_map.1 hz
    have := (hR.sale x (hL x hx)).2.2.2.1
    omega
  rw [List.length_map] at this
  exact this
theorem back_bd {c : Chn} (hc : checkP c = true) (id : Int) (k : Nat) {v : Nat} (hv : v < c.houses.length) : ∃ P, (backL c id (c.sales.take k) (owedL c))[v]? = some P ∧ -1000 ≤ P ∧ P ≤ 1000 := by
  obtain ⟨hR, hN⟩ := check_right hc
  refine ⟨_, backL_get c id v _ _ (netB c c.sales v) (by rw [owed_eq hc]; simp [hv]), ?_⟩
  have h1 := netB_bd hR v (L := c.sales) fun x h => h
  have h2 := netB_bd hR v (L := (c.sales.take k).filter (soldBy id)) fun x h => List.mem_of_mem_take (List.mem_filter.1 h).1
  have h3 : ((c.sales.take k).filter (soldBy id)).length ≤ c.sales.length := Nat.le_trans (List.length_filter_le _ _) (by rw [List.length_take]; omega)
  omega
theorem back_set {c : Chn} {id : Int} {L : List Int} {y : Sale} {s bb : Nat} {P Q : Int} (hs : soldBy id y = true) (hsi : houseI c y.seller = s) (hbi : houseI c y.buyer = bb) (hne : s ≠ bb) (hP : L[s]? = some P) (hQ : L[bb]? = some Q) :
    backX c id L y = (L.set s (P + y.bales)).set bb (Q - y.bales) := by
  unfold backX
  rw [if_pos hs, hsi, hbi, Int.toNat_natCast, Int.toNat_natCast, bump_set hP, bump_set (y := Q) (by rw [List.getElem?_set, if_neg hne, hQ]), Int.sub_eq_add_neg]
set_option maxHeartbeats 8000000 in
theorem second_wp {c : Chn} {w w2 : World} {a0 : Act} {of_ : Int} {A : Option Addr} {n cp : Nat} {A2 : Option Addr} {n2 cp2 : Nat} (hT : Tab w) (hh : SlI w (.slice A n cp) c.houses) (hs : SlL w (.slice A2 n2 cp2) c.sales) (hc : checkP c = true) (hi1 : 0 ≤ of_ ∧ of_ ≤ 255)
    (hnn : n = c.houses.length) (hnn2 : n2 = c.sales.length) (hE : Ext w w2) (hB : Blk w2 w.heap.size 25 #[.slice A n cp, .slice A2 n2 cp2])
    (hF : Fr 206 [(2, .int .u8 of_), (3, .pointer (some ⟨w.heap.size, 0, none⟩)), (7, .bool true)] [] a0) :
    (subC [1, 1, 1, 1] (Tryd.f17.body.getD .skip)).wp Tryd.prog (bodyPost Tryd.prog Tryd.f17 fun e w' => e = .returned (.bool true) ∧ Ext w w') a0 w2 := by
  have HT := Lib.hid hT; have HH := Lib.hid hh; have HS := Lib.hid hs; have HC := Lib.hid hc; have HI1 := Lib.hid hi1; have hn := Lib.hid hnn; have hn2 := Lib.hid hnn2; have E0 := Lib.hid hE; have B0 := Lib.hid hB
  have HR := Lib.hid (check_right HC.out).1
  have HN := Lib.hid (check_right HC.out).2
  clear hT hh hs hc hi1 hnn hnn2 hE hB
  have hb2 : n2 ≤ 1000 := by have := hn2.out; have := HN.out; omega
  have hb1 : n ≤ 1000 := by have := hn.out; have := HR.out.h6; omega
  delta Tryd.f17
  simp only [subC, Option.getD_some]
  obtain ⟨ρ0, rfl, hρ⟩ := hF.open_
  simp only [List.forall_mem_cons] at hρ
  obtain ⟨r2, r3, r7, -⟩ := hρ
  simp only [lst, Nat.reduceAdd, r2, r3, r7]
  clear r2 r3 r7 hF
  by_cases h0 : n = 0
  · subst h0
    have t0 := B0.out.c2
    go_wp2
    go_ret
    exact ⟨rfl, E0.out⟩
  · have t0 := B0.out.c2
    have hnz : ¬ (n : Int) = 0 := by omega
    have hnq : ((n : Int) == 0) = false := by simpa using h0
    obtain ⟨i, hi, hin⟩ := remz_nat HI1.out.1 (show 0 < n by omega)
    have hiz : (i : Int) < (n : Int) := by omega
    have hw1 : IntKind.i64.wrap of_ = of_ := by rw [IntKind.wrap_i64]; have := HI1.out; omega
    obtain ⟨bh, fh, id, rfl, hid, -, hch⟩ := HH.out.at_ hin
    have HID := Lib.hid hid
    obtain ⟨hse, hsh, hso⟩ := owed_stop HC.out (List.mem_of_getElem? hid)
    have hz0 := stop_zero HC.out hid
    have HSE := Lib.hid hse; have HSH := Lib.hid hsh; have HSO := Lib.hid hso; have HZ0 := Lib.hid hz0
    have HLC := Lib.hid (show checkP (stopC c id) = true by unfold stopC; rw [if_pos HSE.out]; exact less_check HC.out _)
    clear hid hse hsh hso hz0
    go_wp2
    have m0 := fun W (h : Ext w2 W) => (B0.out.ext h).c2
    have m1 := fun W (h : Ext w2 W) => (show W.cell? ⟨bh, fh + i, none⟩ = some (.int .i64 id) by simpa using hch W (E0.out.trans h) 0 _ rfl)
    clear t0
    try clear t9
    try clear hmw hmq
    try clear hj hjz
    try clear h2z h2q h2
    try clear hw0 hjn
    clear hi hw1 hnz hnq
    refine wp_region_tame_cutkD (fun W => Ext w2 W) (RX 25) (XI (w2).heap.size 8 10 11 14 100) (by kernel_rfl) 206 rfl 13 (by decide +kernel) (by decide +kernel) (by decide +kernel) (Ext.refl _).drew XI.start ?_
    simp only [List.take, List.drop]
    apply tameD_m rfl rfl (fun v _ => v = .agg #[.slice (some ⟨bh, fh, none⟩) n cp, .slice A2 n2 cp2]) (fun v W W' _ hR h => h)
    · intro ρ L W hC hr hI hL hLs hD
      obtain ⟨hrc, hrg, hrf, hrs⟩ := hr
      simp [go_sem] at hD
      go_simp
      exact ⟨⟨hC, RX.ext (Ext.refl _)⟩, hI.other (Ext.refl _) (by decide) (by decide) (fun e => absurd e (by decide)) _⟩
    simp only [List.nil_append, List.cons_append]
    apply tameD_m rfl rfl (fun v _ => v = .pointer (some ⟨w.heap.size, 0, none⟩)) (fun v W W' _ hR h => h)
    · intro ρ L W hC hr hI hL hLs hD
      obtain ⟨hrc, hrg, hrf, hrs⟩ := hr
      simp [go_sem] at hD
      go_simp
      exact ⟨⟨hC, RX.ext (Ext.refl _)⟩, hI.other (Ext.refl _) (by decide) (by decide) (fun e => absurd e (by decide)) _⟩
    simp only [List.nil_append, List.cons_append]
    apply tameD_m rfl rfl (fun v _ => v = .slice (some ⟨bh, fh, none⟩) n cp) (fun v W W' _ hR h => h)
    · intro ρ L W hC hr hI hL hLs hD
      obtain ⟨hrc, hrg, hrf, hrs⟩ := hr
      simp [go_sem] at hD
      go_simp
      exact ⟨⟨hC, RX.ext (Ext.refl _)⟩, hI.other (Ext.refl _) (by decide) (by decide) (fun e => absurd e (by decide)) _⟩
    simp only [List.nil_append, List.cons_append]
    apply tameD_m rfl rfl (fun v _ => v = .int .i64 (i : Int)) (fun v W W' _ hR h => h)
    · intro ρ L W hC hr hI hL hLs hD
      obtain ⟨hrc, hrg, hrf, hrs⟩ := hr
      simp [go_sem] at hD
      go_simp
      exact ⟨⟨hC, RX.ext (Ext.refl _)⟩, hI.other (Ext.refl _) (by decide) (by decide) (fun e => absurd e (by decide)) _⟩
    simp only [List.nil_append, List.cons_append]
    apply tameD_m rfl rfl (fun v _ => v = .pointer (some ⟨bh, fh + i, none⟩)) (fun v W W' _ hR h => h)
    · intro ρ L W hC hr hI hL hLs hD
      obtain ⟨hrc, hrg, hrf, hrs⟩ := hr
      simp [go_sem] at hD
      go_simp
      exact ⟨⟨hC, RX.ext (Ext.refl _)⟩, hI.other (Ext.refl _) (by decide) (by decide) (fun e => absurd e (by decide)) _⟩
    simp only [List.nil_append, List.cons_append]
    apply tameD_m rfl rfl (fun v _ => v = .int .i64 id) (fun v W W' _ hR h => h)
    · intro ρ L W hC hr hI hL hLs hD
      obtain ⟨hrc, hrg, hrf, hrs⟩ := hr
      simp [go_sem] at hD
      go_simp
      exact ⟨⟨hC, RX.ext (Ext.refl _)⟩, hI.other (Ext.refl _) (by decide) (by decide) (fun e => absurd e (by decide)) _⟩
    simp only [List.nil_append, List.cons_append]
    apply tameD_m rfl rfl (PutV (stopC c id)) (fun v W W' _ hR h => h.rx hR)
    · intro ρ L W hC hr hI hL hLs hD
      obtain ⟨hrc, hrg, hrf, hrs⟩ := hr
      simp [go_sem] at hD
      go_simp
      refine (stop_any c id _ _ _ (HT.out.ext (E0.out.trans hC)) (HH.out.ext (E0.out.trans hC)) (HS.out.ext (E0.out.trans hC)) (by have := HR.out.h6; omega) (by have := HN.out; omega)).mono ?_
      intro e w' hq
      obtain ⟨u, rfl, hu, hE⟩ := putE_of (stopC c id) hq HSE.out rfl
      exact ⟨_, rfl, ⟨hC.trans hE, RX.ext hE⟩, ⟨u, rfl, _, hu⟩, hI.other hE (by decide) (by decide) (fun e => absurd e (by decide)) _⟩
    simp only [List.nil_append, List.cons_append]
    apply tameD_m rfl rfl (PutV (stopC c id)) (fun v W W' _ hR h => h.rx hR)
    · intro ρ L W hC hr hI hL hLs hD
      obtain ⟨hrc, hrg, hrf, hrs⟩ := hr
      simp [go_sem] at hD
      have hD := Lib.hid hD
      go_simp
      refine ⟨⟨hC, RX.ext (Ext.refl _)⟩, ?_⟩
      first | exact ⟨hD.out, hI.other (Ext.refl _) (by decide) (by decide) (fun e => absurd e (by decide)) _⟩ | exact hI.other (Ext.refl _) (by decide) (by decide) (fun e => absurd e (by decide)) _
    simp only [List.nil_append, List.cons_append]
    apply tameD_m rfl rfl (TwinU (stopC c id)) (fun v W W' _ hR h => h.rx hR)
    · intro ρ L W hC hr hI hL hLs hD
      obtain ⟨hrc, hrg, hrf, hrs⟩ := hr
      simp [go_sem] at hD
      obtain ⟨u, e1, hu⟩ := hD
      have hu := Lib.hid hu
      go_simp
      refine ⟨⟨hC, RX.ext (Ext.refl _)⟩, ?_⟩
      first | exact ⟨hu.out, hI.other (Ext.refl _) (by decide) (by decide) (fun _ => ⟨rfl, hL⟩) _⟩ | exact hI.other (Ext.refl _) (by decide) (by decide) (fun _ => ⟨rfl, hL⟩) _
    simp only [List.nil_append, List.cons_append]
    apply tameD_m rfl rfl (fun v _ => v = .int .i64 0) (fun v W W' _ hR h => h)
    · intro ρ L W hC hr hI hL hLs hD
      obtain ⟨hrc, hrg, hrf, hrs⟩ := hr
      simp [go_sem] at hD
      obtain ⟨u, e1, hu⟩ := hD
      clear hu
      go_simp
      exact ⟨⟨hC, RX.ext (Ext.refl _)⟩, hI.other (Ext.refl _) (by decide) (by decide) (fun e => absurd e (by decide)) _⟩
    simp only [List.nil_append, List.cons_append]
    apply tameD_m rfl rfl (fun _ _ => True) (fun v W W' _ hR h => h)
    · intro ρ L W hC hr hI hL hLs hD
      obtain ⟨hrc, hrg, hrf, hrs⟩ := hr
      simp [go_sem] at hD
      have hz := hC.size
      go_simp
      exact ⟨⟨hC.alloc _, RX.ext (Ext.al _ _)⟩, hI.made (by decide) hL hz⟩
    simp only [List.nil_append, List.cons_append]
    apply tameD_n rfl rfl
    · intro ρ L W hC hr hI hL hLs hD
      obtain ⟨hrc, hrg, hrf, hrs⟩ := hr
      simp [go_sem] at hD
      have ha : L 10 = true := hLs ⟨10, .data⟩ (by simp) rfl
      have he : L 8 = true := hLs ⟨8, .data⟩ (by simp) rfl
      obtain ⟨bu, hu, su, eV, hu1, hu2⟩ : TwinU (stopC c id) (ρ (.tmp 100)) W := by first | exact hD | exact hD.1 | exact hD.2 | exact hD.2.1 | exact hD.2.2 | exact hD.2.2.1 | exact hD.2.2.2 | exact hD.2.2.2.1 | exact hD.2.2.2.2 | exact hD.2.2.2.2.1 | exact hD.2.2.2.2.2.1 | exact hD.2.2.2.2.2.2.1 | exact hD.2.2.2.2.2.2.2.1 | exact hD.2.2.2.2.2.2.2.2.1 | exact hD.2.2.2.2.2.2.2.2
      obtain ⟨Au, nu, cu, rfl, -, -, -⟩ := (show SlI W hu _ from hu1.sl (fun _ => rfl)).form
      obtain ⟨Bu, mu, du, rfl, -, -, -⟩ := (show SlL W su _ from hu2.sl (fun _ => rfl)).form
      obtain ⟨g, eS, hg, hB, hS⟩ := hI.stored (by decide) ha he hL eV
      have eS' : ρ (.tmp 14) = .pointer (some ⟨g, 0, none⟩) := eS
      have hB := Lib.hid hB
      have hS := Lib.hid hS
      have hg := Lib.hid hg
      have t0 := hB.out.c2
      clear hI hLs hD hu1 hu2 eS
      go_simp
      have hC2 : Ext w2 ((W.setCell ⟨g, 0, none⟩ (.slice Au nu cu)).setCell ⟨g, 1, none⟩ (.slice Bu mu du)) := (hC.setCell hg.out _).setCell hg.out _
      have hR2 : RX 25 W ((W.setCell ⟨g, 0, none⟩ (.slice Au nu cu)).setCell ⟨g, 1, none⟩ (.slice Bu mu du)) := (RX.set hB.out).trans (RX.set (hB.out.set_ 0 _))
      first | exact ⟨⟨hC2, hR2⟩, hS.out⟩ | exact ⟨hC2, hR2, hS.out⟩ | exact ⟨hC2, hS.out⟩ | exact ⟨hC2, hR2⟩
    simp only [List.nil_append, List.cons_append]
    apply tameD_m rfl rfl (fun v _ => v = .int .i64 0) (fun v W W' _ hR h => h)
    · intro ρ L W hC hr hI hL hLs hD
      obtain ⟨hrc, hrg, hrf, hrs⟩ := hr
      simp [go_sem] at hD
      go_simp
      exact ⟨⟨hC, RX.ext (Ext.refl _)⟩, hI.other (Ext.refl _) (by decide) (by decide) (fun e => absurd e (by decide)) _⟩
    simp only [List.nil_append, List.cons_append]
    refine tameD_end_put rfl rfl (fun ρ W hC hr hI hF => ?_)
    simp [go_sem] at hF
    obtain ⟨f1, f2, f3, f4, f5, f6, -, -, TYf, f10, f12⟩ := hF
    obtain ⟨gy, eS, hgy, -, hwy⟩ := hI.a rfl
    obtain ⟨y0, y1, eV, hBY⟩ := hwy rfl
    have eS' : ρ (.tmp 14) = .pointer (some ⟨gy, 0, none⟩) := eS
    have eV' : ρ (.tmp 100) = .agg #[y0, y1] := eV
    rw [eV'] at TYf
    simp only [putF, f1, f2, f3, f4, f5, f6, f10, f12, eS', eV', List.set_cons_succ, List.set_cons_zero]
    generalize ρ (.tmp 99) = vv99
    generalize ρ (.tmp 92) = vv92
    clear f1 f2 f3 f4 f5 f6 f10 f12 hr eS eS' eV eV' hI hwy hgy
    obtain ⟨ws, hws⟩ : ∃ ws, ws = W := ⟨_, rfl⟩
    subst hws
    obtain ⟨bt, hy, sy, ey, hy1, hy2⟩ := TYf
    have ey0 : y0 = hy := by injection ey with ey; injection ey with ey; injection ey with ey ez
    have ey1 : y1 = sy := by injection ey with ey; injection ey with ey; injection ey with ey ez; injection ez
    subst ey0 ey1
    have Y1 := Lib.hid (show SlI ws y0 (stopC c id).houses from hy1.sl fun _ => rfl)
    have Y2 := Lib.hid (show SlL ws y1 (stopC c id).sales from hy2.sl fun _ => rfl)
    have BY := Lib.hid hBY
    replace E0 := Lib.hid (E0.out.trans hC); replace B0 := Lib.hid (B0.out.ext hC)
    clear ey hy1 hy2 hBY hC m0 m1
    obtain ⟨Ay, ny, cy, rfl, hny, -, -⟩ := Y1.out.form
    obtain ⟨Cy, my, dy, rfl, hmy, -, -⟩ := Y2.out.form
    have t0 := B0.out.c2
    have t1 := BY.out.c2
    go_wp2_with fail
    clear t0 t1
    refine (owed_any (stopC c id) _ _ _ (HT.out.ext E0.out) Y1.out Y2.out (by have := (check_right HLC.out).2; omega)).mono ?_
    rintro e wt ⟨⟨v16, rfl, hu⟩, hE⟩
    rw [HLC.out]
    dsimp only [errB, if_true]
    rw [HSO.out] at hu
    replace E0 := Lib.hid (E0.out.trans hE); replace B0 := Lib.hid (B0.out.ext hE); replace BY := Lib.hid (BY.out.ext hE); replace Y1 := Lib.hid (Y1.out.ext hE)
    rw [HSH.out] at Y1
    have OA := Lib.hid hu
    obtain ⟨Aa, na, ca, rfl, hna, -, -⟩ := OA.out.form
    have ena : n = na := by have := hn.out; have h2 := hna.out; rw [backL_len, owed_eq HC.out] at h2; simp at h2; omega
    subst ena
    have HOL := Lib.hid (show getsL c (balesOf c) = owedL c by unfold owedL; rw [if_pos HC.out])
    clear hE hu hna
    have t0 := B0.out.c2
    go_wp2_with fail
    clear t0
    refine (owed_own c HC.out _ _ _ (HT.out.ext E0.out) (HH.out.ext E0.out) (HS.out.ext E0.out)).mono ?_
    rintro e wu ⟨⟨gb, rfl, hgb, hu⟩, hE⟩
    rw [← hn.out]
    rw [HOL.out] at hu
    have RB := Lib.hid hu
    have EU := Lib.hid hE
    have HGB := Lib.hid hgb
    clear hE hu hgb
    have BU := Lib.hid (B0.out.ext EU.out)
    have BYU := Lib.hid (BY.out.ext EU.out)
    have t0 := BU.out.c2
    have t1 := BYU.out.c2
    have eny : n = ny := by have := hn.out; have h2 := hny.out; rw [HSH.out] at h2; omega
    subst eny
    clear hny
    go_wp2_with fail
    refine (sameInts_any c.houses _ _ _ (Y1.out.ext EU.out) (HH.out.ext (E0.out.trans EU.out))).mono ?_
    rintro e wv ⟨rfl, hE⟩
    replace EU := Lib.hid (EU.out.trans hE)
    replace RB := Lib.hid (RB.out.ext hE)
    clear hE t0 t1 BU BYU
    have BU := Lib.hid (B0.out.ext EU.out)
    have t0 := BU.out.c2
    obtain ⟨ba, fa, a0, rfl, ha0, -, hca⟩ := OA.out.at_ hin
    have za0 : a0 = 0 := by rw [HZ0.out] at ha0; injection ha0 with ha0; exact ha0.symm
    subst za0
    have r0 : wv.cell? ⟨ba, fa + i, none⟩ = some (.int .i64 0) := by simpa using hca wv EU.out 0 _ rfl
    clear ha0 hca
    go_wp2
    clear r0 t0
    go_loopg [155] n2 (fun gg s wr => ∃ kk : Nat, kk ≤ n2 ∧ n2 - kk ≤ gg ∧ s = .int .i64 kk ∧ Aside (Ext wt wr) ∧ Aside (RowI wr gb (backL c id (c.sales.take kk) (owedL c))))
    case atStart => exact ⟨0, Nat.zero_le _, by omega, rfl, EU.out, RB.out⟩
    case round =>
      obtain ⟨kk, hle, hm2, rfl, EX, RW⟩ := hrel
      have EX := Lib.hid EX.out
      have RW := Lib.hid RW.out
      have EW := Lib.hid (E0.out.trans EX.out)
      have BW := Lib.hid (B0.out.ext EX.out)
      by_cases hlt : kk < n2
      · have hltz : (kk : Int) < (n2 : Nat) := by omega
        obtain ⟨b9, off9, y, eS, hy, -, hcy⟩ := HS.out.at_ hlt
        cases eS
        obtain ⟨s, bb, hsi, hbi, hsl, hbl, hne⟩ := sale_at HR.out hy
        have hs9 : s < n := by have := hn.out; omega
        have hb9 : bb < n := by have := hn.out; omega
        have hs9z : (s : Int) < (n : Int) := by omega
        have hb9z : (bb : Int) < (n : Int) := by omega
        obtain ⟨P, hP, hPb⟩ := back_bd HC.out id kk hsl
        obtain ⟨Q, hQ, hQb⟩ := back_bd HC.out id kk hbl
        have hyb := (HR.out.sale y (List.mem_of_getElem? hy)).2.2.2.1
        have hwP : IntKind.i64.wrap (P + y.bales) = P + y.bales := by rw [IntKind.wrap_i64]; omega
        have hwQ : IntKind.i64.wrap (Q - y.bales) = Q - y.bales := by rw [IntKind.wrap_i64]; omega
        have HST := Lib.hid (backL_snoc (id := id) hy (owedL c))
        have HBS := Lib.hid (fun h : soldBy id y = true => back_set h hsi hbi hne hP hQ)
        have HPs := Lib.hid hP; have HQs := Lib.hid hQ; have HSI := Lib.hid hsi; have HBI := Lib.hid hbi; have HNE := Lib.hid hne
        obtain ⟨c0, c1, c2, c3, c4⟩ := SlL.cells hcy EW.out
        clear hy hcy hP hQ hPb hQb hyb hsi hbi hne
        obtain ⟨w2', hw2⟩ : ∃ w2', w2' = wr.alloc (.cells #[.int .i64 y.number, .int .i64 y.seller, .int .i64 y.buyer, .int .i64 y.bales, .int .i64 y.price] 68) := ⟨_, rfl⟩
        have BX := Lib.hid (show Blk w2' wr.heap.size 68 #[.int .i64 y.number, .int .i64 y.seller, .int .i64 y.buyer, .int .i64 y.bales, .int .i64 y.price] from hw2 ▸ Blk.new _ _ _)
        have EX2 := Lib.hid (show Ext wt w2' from hw2 ▸ EX.out.alloc _)
        have EC2 := Lib.hid (E0.out.trans EX2.out)
        have BW2 := Lib.hid (show Blk w2' w.heap.size 25 _ from hw2 ▸ BW.out.alloc _)
        have RW2 := Lib.hid (show RowI w2' gb _ from hw2 ▸ RW.out.alloc _)
        have HNG := Lib.hid (show wr.heap.size ≠ gb by have := RW.out.lt; omega)
        go_wp2
        rw [← hw2]
        clear hw2 c0 c1 c2 c3 c4
        have m0 := fun W (h : Ext w2' W) => (BW2.out.ext h).c2
        have m1 := fun W (h : Ext w2' W) => (BX.out.ext h).c5
        have m2 := fun W (h : Ext w2' W) => (show W.cell? ⟨bh, fh + i, none⟩ = some (.int .i64 id) by simpa using hch W (EC2.out.trans h) 0 _ rfl)
        by_cases s1 : y.seller = id
        · have q1 : (y.seller == id) = true := by simp [s1]
          have HSO2 := Lib.hid (show soldBy id y = true by unfold soldBy; simp [s1])
          clear s1
          refine wp_region_tame (fun W => Ext w2' W) (fun W W' => Ext W W') (by kernel_rfl) 206 rfl (by decide +kernel) (Ext.refl _).drew ?_
          repeat (apply tame_q rfl; (intro ρ W hC hr hD; (obtain ⟨hrc, hrg, hrf, hrs⟩ := hr); (simp [go_sem] at hD); go_simp; first | exact ⟨⟨hC, Ext.refl _⟩, rfl⟩ | exact ⟨⟨hC, RS.refl _⟩, rfl⟩ | exact rfl); simp only [List.nil_append, List.cons_append])
          refine tame_end_put rfl rfl (fun ρ W hC hr hF => ?_)
          simp [go_sem] at hF
          simp only [putF, hF, List.set_cons_succ, List.set_cons_zero]
          clear hF hr
          obtain ⟨w3, hw3⟩ : ∃ w3, w3 = W := ⟨_, rfl⟩
          subst hw3
          have EX3 := Lib.hid (EX2.out.trans hC)
          have EC3 := Lib.hid (EC2.out.trans hC)
          have BW3 := Lib.hid (BW2.out.ext hC)
          have BX3 := Lib.hid (BX.out.ext hC)
          have RW3 := Lib.hid (RW2.out.ext hC)
          clear hC m0 m1 m2 EX2 EC2 BW2 BX RW2
          have m0 := fun W (h : Ext w3 W) => (BW3.out.ext h).c2
          have m1 := fun W (h : Ext w3 W) => (BX3.out.ext h).c5
          have m2 := fun W (h : Ext w3 W) => (show W.cell? ⟨bh, fh + i, none⟩ = some (.int .i64 id) by simpa using hch W (EC3.out.trans h) 0 _ rfl)
          have m3 := fun W (h : Ext w3 W) => (show W.cell? ⟨gb, s, none⟩ = some (.int .i64 P) from (RW3.out.ext h).cell HPs.out)
          have m4 := fun W (h : Ext w3 W) => (show W.cell? ⟨gb, bb, none⟩ = some (.int .i64 Q) from (RW3.out.ext h).cell HQs.out)
          go_wp2
          refine wp_region_tame_cut (fun W => Ext w3 W) (fun W W' => Ext W W') (by kernel_rfl) 206 rfl _ rfl (by decide +kernel) (by decide +kernel) (by decide +kernel) rfl (Ext.refl _).drew ?_
          simp only [List.dropLast]
          repeat (apply tame_q rfl; (intro ρ W hC hr hD; (obtain ⟨hrc, hrg, hrf, hrs⟩ := hr); (simp [go_sem] at hD); go_simp; first | exact ⟨⟨hC, Ext.refl _⟩, rfl⟩ | exact ⟨⟨hC, RS.refl _⟩, rfl⟩ | exact rfl); simp only [List.nil_append, List.cons_append])
          apply tame_q rfl
          · intro ρ W hC hr hD
            obtain ⟨hrc, hrg, hrf, hrs⟩ := hr
            simp [go_sem] at hD
            go_simp
            refine (house_at c y.seller s _ _ W (HH.out.ext (EC3.out.trans hC)) (HS.out.ext (EC3.out.trans hC)) HSI.out).mono ?_
            rintro e w' ⟨rfl, hE⟩
            exact ⟨_, rfl, ⟨hC.trans hE, hE⟩, rfl⟩
          simp only [List.nil_append, List.cons_append]
          repeat (apply tame_q rfl; (intro ρ W hC hr hD; (obtain ⟨hrc, hrg, hrf, hrs⟩ := hr); (simp [go_sem] at hD); go_simp; first | exact ⟨⟨hC, Ext.refl _⟩, rfl⟩ | exact ⟨⟨hC, RS.refl _⟩, rfl⟩ | exact rfl); simp only [List.nil_append, List.cons_append])
          refine tame_end_put rfl rfl (fun ρ W hC hr hF => ?_)
          simp [go_sem] at hF
          simp only [putF, hF, List.set_cons_succ, List.set_cons_zero]
          clear hF hr
          have RX4 := Lib.hid (RW3.out.ext hC)
          have r0 := RX4.out.cell HPs.out
          have rf := RX4.out.frozen
          have rl := RX4.out.lt
          have E4 := Lib.hid (EX3.out.trans hC)
          have EC4 := Lib.hid (EC3.out.trans hC)
          have B4 := Lib.hid (BW3.out.ext hC)
          have BX4 := Lib.hid (BX3.out.ext hC)
          have I4 := Lib.hid (show W.cell? ⟨bh, fh + i, none⟩ = some (.int .i64 id) from m2 W hC)
          clear hC m0 m1 m2 m3 m4 RW3 EX3 EC3 BW3 BX3
          go_wp2
          obtain ⟨w5, hw5⟩ : ∃ w5, w5 = W.setCell ⟨gb, s, none⟩ (.int .i64 (P + y.bales)) := ⟨_, rfl⟩
          have HGS := Lib.hid E4.out.size
          have RW5 := Lib.hid (show RowI w5 gb ((backL c id (c.sales.take kk) (owedL c)).set s (P + y.bales)) from hw5 ▸ RX4.out.set _ _)
          have E5 := Lib.hid (show Ext wt w5 from hw5 ▸ E4.out.setCell (by dsimp only; exact HGB.out) _)
          have B5 := Lib.hid (show Blk w5 w.heap.size 25 _ from hw5 ▸ B4.out.far (by dsimp only; have := B0.out.lt; have := HGB.out; omega) _)
          have BX5 := Lib.hid (show Blk w5 wr.heap.size 68 _ from hw5 ▸ BX4.out.far (by dsimp only; exact HNG.out) _)
          have EC5 := Lib.hid (E0.out.trans E5.out)
          rw [← hw5]
          clear hw5 RX4 E4 EC4 B4 BX4 r0 rf rl I4
          have m0 := fun W (h : Ext w5 W) => (B5.out.ext h).c2
          have m1 := fun W (h : Ext w5 W) => (BX5.out.ext h).c5
          have m4 := fun W (h : Ext w5 W) => (show W.cell? ⟨gb, bb, none⟩ = some (.int .i64 Q) from (RW5.out.ext h).cell (by rw [List.getElem?_set, if_neg HNE.out, HQs.out]))
          refine wp_region_tame_cut (fun W => Ext w5 W) (fun W W' => Ext W W') (by kernel_rfl) 206 rfl _ rfl (by decide +kernel) (by decide +kernel) (by decide +kernel) rfl (Ext.refl _).drew ?_
          simp only [List.dropLast]
          repeat (apply tame_q rfl; (intro ρ W hC hr hD; (obtain ⟨hrc, hrg, hrf, hrs⟩ := hr); (simp [go_sem] at hD); go_simp; first | exact ⟨⟨hC, Ext.refl _⟩, rfl⟩ | exact ⟨⟨hC, RS.refl _⟩, rfl⟩ | exact rfl); simp only [List.nil_append, List.cons_append])
          apply tame_q rfl
          · intro ρ W hC hr hD
            obtain ⟨hrc, hrg, hrf, hrs⟩ := hr
            simp [go_sem] at hD
            go_simp
            refine (house_at c y.buyer bb _ _ W (HH.out.ext (EC5.out.trans hC)) (HS.out.ext (EC5.out.trans hC)) HBI.out).mono ?_
            rintro e w' ⟨rfl, hE⟩
            exact ⟨_, rfl, ⟨hC.trans hE, hE⟩, rfl⟩
          simp only [List.nil_append, List.cons_append]
          repeat (apply tame_q rfl; (intro ρ W hC hr hD; (obtain ⟨hrc, hrg, hrf, hrs⟩ := hr); (simp [go_sem] at hD); go_simp; first | exact ⟨⟨hC, Ext.refl _⟩, rfl⟩ | exact ⟨⟨hC, RS.refl _⟩, rfl⟩ | exact rfl); simp only [List.nil_append, List.cons_append])
          refine tame_end_put rfl rfl (fun ρ W hC hr hF => ?_)
          simp [go_sem] at hF
          simp only [putF, hF, List.set_cons_succ, List.set_cons_zero]
          clear hF hr
          have RX6 := Lib.hid (RW5.out.ext hC)
          have r0 := RX6.out.cell (i := bb) (x := Q) (by rw [List.getElem?_set, if_neg HNE.out, HQs.out])
          have rf := RX6.out.frozen
          have rl := RX6.out.lt
          have E6 := Lib.hid (E5.out.trans hC)
          clear hC m0 m1 m4
          go_wp2
          go_roundg (n2 - (kk + 1))
          case measure => omega
          case rel => exact ⟨kk + 1, by omega, by omega, by simp, E6.out.setCell (by dsimp only; exact HGB.out) _, by rw [HST.out, HBS.out HSO2.out]; exact RX6.out.set _ _⟩
        · have q1 : (y.seller == id) = false := by simp [s1]
          by_cases s2 : y.buyer = id
          · have q2 : (y.buyer == id) = true := by simp [s2]
            have HSO2 := Lib.hid (show soldBy id y = true by unfold soldBy; simp [s2])
            clear s1 s2
            refine wp_region_tame (fun W => Ext w2' W) (fun W W' => Ext W W') (by kernel_rfl) 206 rfl (by decide +kernel) (Ext.refl _).drew ?_
            repeat (apply tame_q rfl; (intro ρ W hC hr hD; (obtain ⟨hrc, hrg, hrf, hrs⟩ := hr); (simp [go_sem] at hD); go_simp; first | exact ⟨⟨hC, Ext.refl _⟩, rfl⟩ | exact ⟨⟨hC, RS.refl _⟩, rfl⟩ | exact rfl); simp only [List.nil_append, List.cons_append])
            refine tame_end_put rfl rfl (fun ρ W hC hr hF => ?_)
            simp [go_sem] at hF
            simp only [putF, hF, List.set_cons_succ, List.set_cons_zero]
            clear hF hr
            obtain ⟨w3, hw3⟩ : ∃ w3, w3 = W := ⟨_, rfl⟩
            subst hw3
            have EX3 := Lib.hid (EX2.out.trans hC)
            have EC3 := Lib.hid (EC2.out.trans hC)
            have BW3 := Lib.hid (BW2.out.ext hC)
            have BX3 := Lib.hid (BX.out.ext hC)
            have RW3 := Lib.hid (RW2.out.ext hC)
            clear hC m0 m1 m2 EX2 EC2 BW2 BX RW2
            have m0 := fun W (h : Ext w3 W) => (BW3.out.ext h).c2
            have m1 := fun W (h : Ext w3 W) => (BX3.out.ext h).c5
            have m2 := fun W (h : Ext w3 W) => (show W.cell? ⟨bh, fh + i, none⟩ = some (.int .i64 id) by simpa using hch W (EC3.out.trans h) 0 _ rfl)
            have m3 := fun W (h : Ext w3 W) => (show W.cell? ⟨gb, s, none⟩ = some (.int .i64 P) from (RW3.out.ext h).cell HPs.out)
            have m4 := fun W (h : Ext w3 W) => (show W.cell? ⟨gb, bb, none⟩ = some (.int .i64 Q) from (RW3.out.ext h).cell HQs.out)
            go_wp2
            refine wp_region_tame_cut (fun W => Ext w3 W) (fun W W' => Ext W W') (by kernel_rfl) 206 rfl _ rfl (by decide +kernel) (by decide +kernel) (by decide +kernel) rfl (Ext.refl _).drew ?_
            simp only [List.dropLast]
            repeat (apply tame_q rfl; (intro ρ W hC hr hD; (obtain ⟨hrc, hrg, hrf, hrs⟩ := hr); (simp [go_sem] at hD); go_simp; first | exact ⟨⟨hC, Ext.refl _⟩, rfl⟩ | exact ⟨⟨hC, RS.refl _⟩, rfl⟩ | exact rfl); simp only [List.nil_append, List.cons_append])
            apply tame_q rfl
            · intro ρ W hC hr hD
              obtain ⟨hrc, hrg, hrf, hrs⟩ := hr
              simp [go_sem] at hD
              go_simp
              refine (house_at c y.seller s _ _ W (HH.out.ext (EC3.out.trans hC)) (HS.out.ext (EC3.out.trans hC)) HSI.out).mono ?_
              rintro e w' ⟨rfl, hE⟩
              exact ⟨_, rfl, ⟨hC.trans hE, hE⟩, rfl⟩
            simp only [List.nil_append, List.cons_append]
            repeat (apply tame_q rfl; (intro ρ W hC hr hD; (obtain ⟨hrc, hrg, hrf, hrs⟩ := hr); (simp [go_sem] at hD); go_simp; first | exact ⟨⟨hC, Ext.refl _⟩, rfl⟩ | exact ⟨⟨hC, RS.refl _⟩, rfl⟩ | exact rfl); simp only [List.nil_append, List.cons_append])
            refine tame_end_put rfl rfl (fun ρ W hC hr hF => ?_)
            simp [go_sem] at hF
            simp only [putF, hF, List.set_cons_succ, List.set_cons_zero]
            clear hF hr
            have RX4 := Lib.hid (RW3.out.ext hC)
            have r0 := RX4.out.cell HPs.out
            have rf := RX4.out.frozen
            have rl := RX4.out.lt
            have E4 := Lib.hid (EX3.out.trans hC)
            have EC4 := Lib.hid (EC3.out.trans hC)
            have B4 := Lib.hid (BW3.out.ext hC)
            have BX4 := Lib.hid (BX3.out.ext hC)
            have I4 := Lib.hid (show W.cell? ⟨bh, fh + i, none⟩ = some (.int .i64 id) from m2 W hC)
            clear hC m0 m1 m2 m3 m4 RW3 EX3 EC3 BW3 BX3
            go_wp2
            obtain ⟨w5, hw5⟩ : ∃ w5, w5 = W.setCell ⟨gb, s, none⟩ (.int .i64 (P + y.bales)) := ⟨_, rfl⟩
            have HGS := Lib.hid E4.out.size
            have RW5 := Lib.hid (show RowI w5 gb ((backL c id (c.sales.take kk) (owedL c)).set s (P + y.bales)) from hw5 ▸ RX4.out.set _ _)
            have E5 := Lib.hid (show Ext wt w5 from hw5 ▸ E4.out.setCell (by dsimp only; exact HGB.out) _)
            have B5 := Lib.hid (show Blk w5 w.heap.size 25 _ from hw5 ▸ B4.out.far (by dsimp only; have := B0.out.lt; have := HGB.out; omega) _)
            have BX5 := Lib.hid (show Blk w5 wr.heap.size 68 _ from hw5 ▸ BX4.out.far (by dsimp only; exact HNG.out) _)
            have EC5 := Lib.hid (E0.out.trans E5.out)
            rw [← hw5]
            clear hw5 RX4 E4 EC4 B4 BX4 r0 rf rl I4
            have m0 := fun W (h : Ext w5 W) => (B5.out.ext h).c2
            have m1 := fun W (h : Ext w5 W) => (BX5.out.ext h).c5
            have m4 := fun W (h : Ext w5 W) => (show W.cell? ⟨gb, bb, none⟩ = some (.int .i64 Q) from (RW5.out.ext h).cell (by rw [List.getElem?_set, if_neg HNE.out, HQs.out]))
            refine wp_region_tame_cut (fun W => Ext w5 W) (fun W W' => Ext W W') (by kernel_rfl) 206 rfl _ rfl (by decide +kernel) (by decide +kernel) (by decide +kernel) rfl (Ext.refl _).drew ?_
            simp only [List.dropLast]
            repeat (apply tame_q rfl; (intro ρ W hC hr hD; (obtain ⟨hrc, hrg, hrf, hrs⟩ := hr); (simp [go_sem] at hD); go_simp; first | exact ⟨⟨hC, Ext.refl _⟩, rfl⟩ | exact ⟨⟨hC, RS.refl _⟩, rfl⟩ | exact rfl); simp only [List.nil_append, List.cons_append])
            apply tame_q rfl
            · intro ρ W hC hr hD
              obtain ⟨hrc, hrg, hrf, hrs⟩ := hr
              simp [go_sem] at hD
              go_simp
              refine (house_at c y.buyer bb _ _ W (HH.out.ext (EC5.out.trans hC)) (HS.out.ext (EC5.out.trans hC)) HBI.out).mono ?_
              rintro e w' ⟨rfl, hE⟩
              exact ⟨_, rfl, ⟨hC.trans hE, hE⟩, rfl⟩
            simp only [List.nil_append, List.cons_append]
            repeat (apply tame_q rfl; (intro ρ W hC hr hD; (obtain ⟨hrc, hrg, hrf, hrs⟩ := hr); (simp [go_sem] at hD); go_simp; first | exact ⟨⟨hC, Ext.refl _⟩, rfl⟩ | exact ⟨⟨hC, RS.refl _⟩, rfl⟩ | exact rfl); simp only [List.nil_append, List.cons_append])
            refine tame_end_put rfl rfl (fun ρ W hC hr hF => ?_)
            simp [go_sem] at hF
            simp only [putF, hF, List.set_cons_succ, List.set_cons_zero]
            clear hF hr
            have RX6 := Lib.hid (RW5.out.ext hC)
            have r0 := RX6.out.cell (i := bb) (x := Q) (by rw [List.getElem?_set, if_neg HNE.out, HQs.out])
            have rf := RX6.out.frozen
            have rl := RX6.out.lt
            have E6 := Lib.hid (E5.out.trans hC)
            clear hC m0 m1 m4
            go_wp2
            go_roundg (n2 - (kk + 1))
            case measure => omega
            case rel => exact ⟨kk + 1, by omega, by omega, by simp, E6.out.setCell (by dsimp only; exact HGB.out) _, by rw [HST.out, HBS.out HSO2.out]; exact RX6.out.set _ _⟩
          · have q2 : (y.buyer == id) = false := by simp [s2]
            have HSO2 := Lib.hid (show soldBy id y = false by unfold soldBy; simp [s1, s2])
            clear s1 s2
            refine wp_region_tame (fun W => Ext w2' W) (fun W W' => Ext W W') (by kernel_rfl) 206 rfl (by decide +kernel) (Ext.refl _).drew ?_
            repeat (apply tame_q rfl; (intro ρ W hC hr hD; (obtain ⟨hrc, hrg, hrf, hrs⟩ := hr); (simp [go_sem] at hD); go_simp; first | exact ⟨⟨hC, Ext.refl _⟩, rfl⟩ | exact ⟨⟨hC, RS.refl _⟩, rfl⟩ | exact rfl); simp only [List.nil_append, List.cons_append])
            refine tame_end_put rfl rfl (fun ρ W hC hr hF => ?_)
            simp [go_sem] at hF
            simp only [putF, hF, List.set_cons_succ, List.set_cons_zero]
            clear hF hr
            have E3 := Lib.hid (EX2.out.trans hC)
            have RW3 := Lib.hid (RW2.out.ext hC)
            clear hC m0 m1 m2
            go_wp2
            go_roundg (n2 - (kk + 1))
            case measure => omega
            case rel => exact ⟨kk + 1, by omega, by omega, by simp, E3.out, by rw [HST.out]; unfold backX; rw [HSO2.out]; exact RW3.out⟩
      · have hkk : kk = n2 := by omega
        have OE := Lib.hid (OA.out.ext EX.out)
        have RE := RW.out
        rw [hkk, List.take_of_length_le (by have := hn2.out; omega)] at RE
        have hbl : (backL c id c.sales (owedL c)).length = n := by rw [backL_len, owed_eq HC.out]; simp; exact hn.out.symm
        have h6 := HR.out.h6
        have RS := RE.sl (by unfold maxLen; rw [hbl]; have := hn.out; omega)
        rw [hbl] at RS
        have RSL := Lib.hid RS
        clear hkk RE hbl h6 RS RW
        go_wp2_with fail
        refine (sameInts_any _ _ _ _ OE.out RSL.out).mono ?_
        rintro e wz ⟨rfl, hE⟩
        go_wp2
        go_ret
        exact ⟨rfl, EW.out.trans hE⟩
end Go.Proofs.YtafdbgielmlihaaDoor
/- The law ChainStruck: the walk. -/
namespace Go.Proofs.YtafdbgielmlihaaDoor
open Go.RowKit Go.Shelf Go.Lib
set_option maxRecDepth 100000
set_option linter.unusedSimpArgs false

set_option maxHeartbeats 8000000 in
theorem struckLaw_of (hA : AliveT) (c : Chn) (which of_ : Int) (hv sv : Value) (w : World) (hT : Tab w) (hh : SlI w hv c.houses) (hs : SlL w sv c.sales) (hi0 : 0 ≤ which ∧ which ≤ 255) (hi1 : 0 ≤ of_ ∧ of_ ≤ 255) :
    Calls Tryd.prog 17 #[valC hv sv, .int .u8 which, .int .u8 of_] w fun e w' => e = .returned (.bool true) ∧ Ext w w' := by
  have HT := Lib.hid hT; have HH := Lib.hid hh; have HS := Lib.hid hs
  obtain ⟨A, n, cp, rfl, hn, hlc, hcm⟩ := hh.form
  obtain ⟨A2, n2, cp2, rfl, hn2, hlc2, hcm2⟩ := hs.form
  have HI0 := Lib.hid hi0; have HI1 := Lib.hid hi1
  have B0 := Lib.hid (show Blk (w.alloc (.cells #[.slice A n cp, .slice A2 n2 cp2] 25)) w.heap.size 25 #[.slice A n cp, .slice A2 n2 cp2] from Blk.new _ _ _)
  have E0 := Lib.hid (Ext.al w (.cells #[.slice A n cp, .slice A2 n2 cp2] 25))
  clear hh hs hT hi0 hi1
  go_enter Tryd.func17, Tryd.ntmps17
  go_wp2_with fail
  refine (hA _ (HT.out.ext E0.out)).mono ?_
  rintro e w1 ⟨rfl, hE⟩
  replace E0 := Lib.hid (E0.out.trans hE); replace B0 := Lib.hid (B0.out.ext hE); clear hE
  have t0 := B0.out.c2
  go_wp2_with fail
  refine (ready_any c _ _ _ (HH.out.ext E0.out) (HS.out.ext E0.out)).mono ?_
  rintro e w2 ⟨rfl, hE⟩
  replace E0 := Lib.hid (E0.out.trans hE); replace B0 := Lib.hid (B0.out.ext hE); clear hE t0
  cases hc : checkP c with
  | false =>
    clear hc
    go_wp2
    go_ret
    exact ⟨rfl, E0.out⟩
  | true =>
    have HC := Lib.hid hc; clear hc
    have HR := Lib.hid (check_right HC.out).1
    have HN := Lib.hid (check_right HC.out).2
    have t0 := B0.out.c2
    by_cases h2 : n2 = 0
    · subst h2
      dsimp only
      repeat (first | exact second_wp (c := c) (of_ := of_) HT.out HH.out HS.out HC.out HI1.out hn.out hn2.out E0.out B0.out ⟨rfl, rfl, by simp [Act.eval]⟩ | go_values | go_skip | go_guarded | go_step | go_upon | go_back)
    · have h2z : (0 : Int) < (n2 : Int) := by omega
      have h2q : ¬ (n2 : Int) = 0 := by omega
      obtain ⟨j, hj, hjn⟩ := remz_nat HI0.out.1 (show 0 < n2 by omega)
      have hjz : (j : Int) < (n2 : Int) := by omega
      have hw0 : IntKind.i64.wrap which = which := by rw [IntKind.wrap_i64]; have := HI0.out; omega
      obtain ⟨b, off, x, rfl, hx, -, hcell⟩ := HS.out.at_ hjn
      have m0 := fun W (h : Ext w2 W) => (B0.out.ext h).c2
      have m1 := fun W (h : Ext w2 W) => SlL.cells hcell (E0.out.trans h)
      obtain ⟨he0, hp0, hpc, hsl⟩ := struck_back HC.out hx
      have HE0 := Lib.hid he0; have HP0 := Lib.hid hp0; have HPC := Lib.hid hpc; have HSL := Lib.hid hsl
      clear hx hcell he0 hp0 hpc hsl
      go_wp2
      refine wp_region_tame_cut (fun W => Ext w2 W) (fun W W' => Ext W W') (by kernel_rfl) 206 rfl _ rfl (by decide +kernel) (by decide +kernel) (by decide +kernel) rfl (Ext.refl _).drew ?_
      simp only [List.dropLast]
      repeat (apply tame_q rfl; (intro ρ W hC hr hD; (obtain ⟨hrc, hrg, hrf, hrs⟩ := hr); (simp [go_sem] at hD); go_simp; first | exact ⟨⟨hC, Ext.refl _⟩, rfl⟩ | exact ⟨⟨hC, RS.refl _⟩, rfl⟩ | exact rfl); simp only [List.nil_append, List.cons_append])
      apply tame_v rfl (FreshLB w2.heap.size) (fun v W W' _ hE h => h.ext hE)
      · intro ρ W hC hr hD
        obtain ⟨hrc, hrg, hrf, hrs⟩ := hr
        simp [go_sem] at hD
        go_simp
        exact ⟨⟨hC.alloc _, Ext.al _ _⟩, ⟨_, rfl, hC.size, Blk.new _ _ _⟩⟩
      simp only [List.nil_append, List.cons_append]
      refine tame_end_put rfl rfl (fun ρ W hC hr hF => ?_)
      simp [go_sem] at hF
      obtain ⟨f1, f2, f3, f4, f5, f6, f7, f8, f9, f10, ⟨g8, f11, hg8, hB8⟩⟩ := hF
      simp only [putF, f1, f2, f3, f4, f5, f6, f7, f8, f9, f10, f11, List.set_cons_succ, List.set_cons_zero]
      clear f1 f2 f3 f4 f5 f6 f7 f8 f9 f10 f11 hr
      replace E0 := Lib.hid (E0.out.trans hC); replace B0 := Lib.hid (B0.out.ext hC)
      have HB8 := Lib.hid hB8
      have HG8 := Lib.hid (show w.heap.size ≤ g8 ∧ w.heap.size ≠ g8 by have := B0.out.lt; have := E0.out.size; have := hC.size; omega)
      obtain ⟨w3, hw3⟩ : ∃ w3, w3 = W := ⟨_, rfl⟩
      subst hw3
      clear hC hB8 m0 m1 t0
      refine wpList_storeB rfl rfl 68 (.tmp 8) (.tmp 44) rfl (n := 5) (by kernel_rfl) rfl rfl HB8.out rfl rfl (encL_1 x) ?_
      intro w4 hB4 hG
      have XB := Lib.hid (show Blk w4 g8 68 #[.int .i64 x.number, .int .i64 x.seller, .int .i64 x.buyer, .int .i64 x.bales, .int .i64 x.price] from hB4)
      replace E0 := Lib.hid (ext_grownP E0.out hG HG8.out.1)
      replace B0 := Lib.hid (B0.out.grown hG (by intro e; injection e with e; exact HG8.out.2 e))
      clear hB4 hG HB8 HG8 hg8
      have t0 := B0.out.c2
      have t8 := XB.out.c5
      go_wp2_with fail
      obtain ⟨wa, hwa⟩ : ∃ wa, wa = w4.alloc (.cells #[.int .i64 x.number] 3) := ⟨_, rfl⟩
      have S3 := Lib.hid (show SlI wa (.slice (some ⟨w4.heap.size, 0, none⟩) 1 1) [x.number] from hwa ▸ Own.sl (enc := encI) (sz := 1) (fun _ => rfl) (Own.lit (enc := encI) (sz := 1) (e := 3) (base := w4.heap.size) (l := ([x.number] : List Int)) (fun _ => rfl) (Blk.new w4 3 #[.int .i64 x.number]) (by simp) (Nat.le_refl _) (by simp)))
      replace E0 := Lib.hid (show Ext w wa from hwa ▸ E0.out.alloc _); replace B0 := Lib.hid (show Blk wa w.heap.size 25 _ from hwa ▸ B0.out.alloc _); replace XB := Lib.hid (show Blk wa g8 68 _ from hwa ▸ XB.out.alloc _)
      rw [← hwa]
      clear hwa t0 t8
      refine (strike_any c [x.number] _ _ _ _ (HT.out.ext E0.out) (HH.out.ext E0.out) (HS.out.ext E0.out) S3.out (by have := HR.out.h6; omega) (by have := HN.out; omega)).mono ?_
      intro e w5 hq
      obtain ⟨u, rfl, hu, hE⟩ := putE_of (strikeC c [x.number]) hq HE0.out rfl
      obtain ⟨hz, sz, rfl, oz, pz⟩ := hu
      replace E0 := Lib.hid (E0.out.trans hE); replace B0 := Lib.hid (B0.out.ext hE); replace XB := Lib.hid (XB.out.ext hE)
      have Z1 := Lib.hid (show SlI w5 hz (strikeC c [x.number]).houses from oz.sl fun _ => rfl)
      have Z2 := Lib.hid (show SlL w5 sz (strikeC c [x.number]).sales from pz.sl fun _ => rfl)
      clear hq hE oz pz S3
      obtain ⟨Az, nz, cz, rfl, -, -, -⟩ := Z1.out.form
      obtain ⟨Bz, mz, dz, rfl, hmz, -, -⟩ := Z2.out.form
      have hmn : (mz : Int) = (n2 : Int) - 1 := by have := hmz.out; have := HSL.out; have := hn2.out; omega
      have HMN := Lib.hid hmn
      clear hmn
      have t8 := XB.out.c5
      go_wp2_with fail
      obtain ⟨wb, hwb⟩ : ∃ wb, wb = w5.alloc (.cells #[.slice Az nz cz, .slice Bz mz dz] 25) := ⟨_, rfl⟩
      have ZB := Lib.hid (show Blk wb w5.heap.size 25 #[.slice Az nz cz, .slice Bz mz dz] from hwb ▸ Blk.new _ _ _)
      replace E0 := Lib.hid (show Ext w wb from hwb ▸ E0.out.alloc _); replace B0 := Lib.hid (show Blk wb w.heap.size 25 _ from hwb ▸ B0.out.alloc _)
      replace Z1 := Lib.hid (show SlI wb _ _ from hwb ▸ Z1.out.ext (Ext.al _ _)); replace Z2 := Lib.hid (show SlL wb _ _ from hwb ▸ Z2.out.ext (Ext.al _ _))
      rw [← hwb]
      clear hwb t8
      refine (put_any (strikeC c [x.number]) x _ _ _ (HT.out.ext E0.out) Z1.out Z2.out (by unfold strikeC; rw [if_pos HE0.out]; exact Nat.le_trans HR.out.h6 (by decide)) (by have := HSL.out; have := HN.out; omega)).mono ?_
      intro e w6 hq
      obtain ⟨u, rfl, hu, hE⟩ := putE_of c hq HP0.out HPC.out
      obtain ⟨hy, sy, rfl, oy, py⟩ := hu
      replace E0 := Lib.hid (E0.out.trans hE); replace B0 := Lib.hid (B0.out.ext hE); replace ZB := Lib.hid (ZB.out.ext hE)
      have Y1 := Lib.hid (show SlI w6 hy c.houses from oy.sl fun _ => rfl)
      have Y2 := Lib.hid (show SlL w6 sy c.sales from py.sl fun _ => rfl)
      clear hq hE oy py Z1 Z2
      obtain ⟨Ay, ny, cy, rfl, -, -, -⟩ := Y1.out.form
      obtain ⟨By, my, dy, rfl, -, -, -⟩ := Y2.out.form
      have t0 := B0.out.c2
      go_wp2_with fail
      obtain ⟨wc, hwc⟩ : ∃ wc, wc = w6.alloc (.cells #[.slice Ay ny cy, .slice By my dy] 25) := ⟨_, rfl⟩
      replace E0 := Lib.hid (show Ext w wc from hwc ▸ E0.out.alloc _); replace B0 := Lib.hid (show Blk wc w.heap.size 25 _ from hwc ▸ B0.out.alloc _)
      replace ZB := Lib.hid (show Blk wc w5.heap.size 25 _ from hwc ▸ ZB.out.alloc _)
      replace Y1 := Lib.hid (show SlI wc _ _ from hwc ▸ Y1.out.ext (Ext.al _ _)); replace Y2 := Lib.hid (show SlL wc _ _ from hwc ▸ Y2.out.ext (Ext.al _ _))
      rw [← hwc]
      clear hwc t0
      refine (same_any c _ _ _ _ _ Y1.out Y2.out (HH.out.ext E0.out) (HS.out.ext E0.out)).mono ?_
      rintro e w7 ⟨rfl, hE⟩
      replace E0 := Lib.hid (E0.out.trans hE); replace B0 := Lib.hid (B0.out.ext hE); replace ZB := Lib.hid (ZB.out.ext hE)
      clear hE Y1 Y2 XB
      have t9 := ZB.out.c2
      have t0 := B0.out.c2
      have hmw : IntKind.i64.wrap ((n2 : Int) - 1) = (n2 : Int) - 1 := by rw [IntKind.wrap_i64]; have := hn2.out; have := HN.out; omega
      have hmq : ((mz : Int) == (n2 : Int) - 1) = true := by rw [beq_iff_eq]; exact HMN.out
      dsimp only
      repeat (first | exact second_wp (c := c) (of_ := of_) HT.out HH.out HS.out HC.out HI1.out hn.out hn2.out E0.out B0.out ⟨rfl, rfl, by simp [Act.eval]⟩ | go_values | go_skip | go_guarded | go_step | go_upon | go_back)
end Go.Proofs.YtafdbgielmlihaaDoor
