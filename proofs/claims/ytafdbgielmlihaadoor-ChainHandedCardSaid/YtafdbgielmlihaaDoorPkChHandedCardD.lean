/- The law ChainHanded: what is owed is nothing behind all that is handed (the second and the first loop of the walk). -/
import Derived.Test.YtafdbgielmlihaaDoorPkChHandedCardA
import Derived.Test.YtafdbgielmlihaaDoorPkChHandedCardC
import Derived.Test.YtafdbgielmlihaaDoorPkChLeastCardD
import Derived.Test.YtafdbgielmlihaaDoorPkChLeastCardV
import Derived.Test.YtafdbgielmlihaaDoorPkChLeastCardR
import Derived.Test.YtafdbgielmlihaaDoorPkChLeastCardB
import Derived.Test.YtafdbgielmlihaaDoorPkChLeastCardU
import Derived.Test.YtafdbgielmlihaaDoorPkChLeastCardT
import Derived.Test.YtafdbgielmlihaaDoorPkChLeastCardS
namespace Go.Proofs.YtafdbgielmlihaaDoor
open Go.RowKit Go.Shelf Go.Lib
set_option maxRecDepth 100000
set_option linter.unusedSimpArgs false

set_option maxHeartbeats 8000000 in
theorem owedNone_wp {c : Chn} {l : List Int} {w w2 : World} {a0 : Act} {A : Option Addr} {n cp : Nat} {A2 : Option Addr} {n2 cp2 : Nat} {Ap : Option Addr} {np cpp : Nat} {Am : Option Addr} {cm gb : Nat} {all nn : Int} (hh : SlI w (.slice A n cp) c.houses) (hs : SlL w (.slice A2 n2 cp2) c.sales) (hc : checkP c = true)
    (hnn : n = c.houses.length) (hnn2 : n2 = c.sales.length) (hll : l.length = c.sales.length) (hE : Ext w w2) (hB : Blk w2 w.heap.size 25 #[.slice A n cp, .slice A2 n2 cp2]) (hp : SlI w2 (.slice Ap np cpp) (passesL c l)) (hm : SlI w2 (.slice Am n2 cm) l) (hle : all ≤ nn) (hr : RowI w2 gb (List.replicate n 0))
    (hF : Fr 278 [(1, .pointer (some ⟨w.heap.size, 0, none⟩)), (3, .bool true), (4, .slice (some ⟨gb, 0, none⟩) n n), (8, .slice Ap np cpp), (10, .slice Am n2 cm), (11, .int .i64 nn), (13, .int .i64 all)] [] a0) :
    (subC [1, 1, 1, 1, 1, 1, 1, 1, 1, 1] (Tryd.f12.body.getD .skip)).wp Tryd.prog (bodyPost Tryd.prog Tryd.f12 fun e w' => e = .returned (.bool true) ∧ Ext w w') a0 w2 := by
  have HH := Lib.hid hh; have HS := Lib.hid hs; have HC := Lib.hid hc; have hn := Lib.hid hnn; have hn2 := Lib.hid hnn2; have E0 := Lib.hid hE; have B0 := Lib.hid hB; have PL := Lib.hid hp; have ML := Lib.hid hm; have HLL := Lib.hid hll; have RB := Lib.hid hr; have HLE := Lib.hid hle
  have HR := Lib.hid (check_right HC.out).1
  clear hh hs hc hnn hnn2 hE hB hp hm hll hr hle
  have hb1 : n ≤ 1000 := by have := hn.out; have := HR.out.h6; omega
  delta Tryd.f12
  simp only [subC, Option.getD_some]
  obtain ⟨ρ0, rfl, hρ⟩ := hF.open_
  simp only [List.forall_mem_cons] at hρ
  obtain ⟨r1, r3, r4, r8, r10, r11, r13, -⟩ := hρ
  simp only [lst, Nat.reduceAdd, r1, r3, r4, r8, r10, r11, r13]
  clear r1 r3 r4 r8 r10 r11 r13 hF
  go_wp2
  go_loopg [201] n (fun gg s wr => ∃ kk : Nat, kk ≤ n ∧ n - kk ≤ gg ∧ s = .int .i64 kk ∧ wr = w2)
  case atStart => exact ⟨0, Nat.zero_le _, by omega, rfl, rfl⟩
  case round =>
    obtain ⟨kk, hle', hm2, rfl, rfl⟩ := hrel
    by_cases hlt : kk < n
    · have hltz : (kk : Int) < (n : Int) := by omega
      have r0 := RB.out.cell (i := kk) (x := 0) (by rw [List.getElem?_replicate, if_pos hlt])
      go_wp2
      clear r0
      go_roundg (n - (kk + 1))
      case measure => omega
      case rel => exact ⟨kk + 1, by omega, by omega, by simp, rfl⟩
    · repeat (first | exact third_wp (c := c) (l := l) HH.out HS.out HC.out hn.out hn2.out HLL.out E0.out B0.out PL.out ML.out HLE.out ⟨rfl, rfl, by simp [Act.eval]⟩ | go_values | go_skip | go_guarded | go_step | go_upon | go_back | (simp only [Int.not_lt, Int.not_le] at *; go_simp))

set_option maxHeartbeats 8000000 in
theorem hand_wp {c : Chn} {l : List Int} {D : Int → Int → Nat} {w w2 w6 : World} {a0 : Act} {A : Option Addr} {n cp : Nat} {A2 : Option Addr} {n2 cp2 : Nat} {Ah : Option Addr} {nh ch : Nat} {Ap : Option Addr} {np cpp : Nat} {Am : Option Addr} {cm gb : Nat} (hT : Tab w) (hh : SlI w (.slice A n cp) c.houses) (hs : SlL w (.slice A2 n2 cp2) c.sales) (hc : checkP c = true) (hcl : IsClose c l) (hD : HandAll c l D)
    (hnn : n = c.houses.length) (hnn2 : n2 = c.sales.length) (hll : l.length = c.sales.length) (hE : Ext w w2) (hE6 : Ext w2 w6) (hgb : w2.heap.size ≤ gb) (hbw : w.heap.size < w2.heap.size) (hB : Blk w6 w.heap.size 25 #[.slice A n cp, .slice A2 n2 cp2])
    (hh6 : Sl encHd 3 w6 (.slice Ah nh ch) (handsL c l)) (hh7 : NewAt (gb + 1) (.slice Ah nh ch)) (hp6 : SlI w6 (.slice Ap np cpp) (passesL c l)) (hp7 : NewAt (gb + 1) (.slice Ap np cpp)) (hm6 : SlI w6 (.slice Am n2 cm) l) (hm7 : NewAt (gb + 1) (.slice Am n2 cm)) (hr : RowI w6 gb (getsL c (balesOf c)))
    (hF : Fr 278 [(1, .pointer (some ⟨w.heap.size, 0, none⟩)), (3, .bool true), (4, .slice (some ⟨gb, 0, none⟩) n n), (6, .slice Ah nh ch), (8, .slice Ap np cpp), (10, .slice Am n2 cm), (11, .int .i64 (sumI l)), (13, .int .i64 0)] [] a0) :
    (subC [1, 1, 1, 1, 1, 1, 1, 1, 1] (Tryd.f12.body.getD .skip)).wp Tryd.prog (bodyPost Tryd.prog Tryd.f12 fun e w' => e = .returned (.bool true) ∧ Ext w w') a0 w6 := by
  have HT := Lib.hid hT; have HH := Lib.hid hh; have HS := Lib.hid hs; have HC := Lib.hid hc; have hn := Lib.hid hnn; have hn2 := Lib.hid hnn2; have E0 := Lib.hid hE; have E6 := Lib.hid hE6; have HGB := Lib.hid hgb; have HBW := Lib.hid hbw; have B6 := Lib.hid hB; have HLL := Lib.hid hll; have RB := Lib.hid hr
  have H6 := Lib.hid hh6; have H7 := Lib.hid hh7; have P6 := Lib.hid hp6; have P7 := Lib.hid hp7; have M6 := Lib.hid hm6; have M7 := Lib.hid hm7; have HCL := Lib.hid hcl; have HD := Lib.hid hD
  have HR := Lib.hid (check_right HC.out).1
  have HN := Lib.hid (check_right HC.out).2
  obtain ⟨Ah', nh', ch', eH, hnh, hlh, hch⟩ := hh6.form
  cases eH
  clear hT hh hs hc hnn hnn2 hE hE6 hgb hbw hB hll hr hh6 hh7 hp6 hp7 hm6 hm7 hcl hD
  have hb1 : n ≤ 1000 := by have := hn.out; have := HR.out.h6; omega
  delta Tryd.f12
  simp only [subC, Option.getD_some]
  obtain ⟨ρ0, rfl, hρ⟩ := hF.open_
  simp only [List.forall_mem_cons] at hρ
  obtain ⟨r1, r3, r4, r6, r8, r10, r11, r13, -⟩ := hρ
  simp only [lst, Nat.reduceAdd, r1, r3, r4, r6, r8, r10, r11, r13]
  clear r1 r3 r4 r6 r8 r10 r11 r13 hF
  go_wp2
  go_loopg [13, 93] nh (fun gg s13 s wr => ∃ kk : Nat, kk ≤ nh ∧ nh - kk ≤ gg ∧ s = .int .i64 kk ∧ s13 = .int .i64 (wsum (fun a b => (D a b : Int)) ((handsL c l).take kk)) ∧ Aside (Ext w2 wr) ∧ Aside (w6.grownBy wr (some gb)) ∧ Aside (RowI wr gb (payL c ((handsL c l).take kk) (getsL c (balesOf c)))))
  case atStart => exact ⟨0, Nat.zero_le _, by omega, rfl, by simp [wsum], E6.out, World.grownBy.refl _ _, by show RowI _ _ _; simpa [payL] using RB.out⟩
  case round =>
    obtain ⟨kk, hle', hm2, rfl, rfl, EX, EG, RX⟩ := hrel
    replace EX := Lib.hid EX.out; replace EG := Lib.hid EG.out; replace RX := Lib.hid RX.out
    have EC := Lib.hid (E0.out.trans EX.out)
    have BX := Lib.hid (show Blk wr w.heap.size 25 #[.slice A n cp, .slice A2 n2 cp2] from (EG.out.block _ B6.out.lt (by have := HGB.out; have := HBW.out; intro e; injection e with e; omega)).trans B6.out)
    have HX := Lib.hid (show Sl encHd 3 wr (.slice Ah nh ch) (handsL c l) from H6.out.older H7.out (by omega) EG.out)
    by_cases hlt : kk < nh
    · have hltz : (kk : Int) < (nh : Int) := by omega
      obtain ⟨bh, fh, x, rfl, hx, hbh, hcx⟩ := HX.out.at_ hlt
      obtain ⟨s, t, d, way, P, Q, rd⟩ := hand_rd HC.out HCL.out HD.out hx
      have hpv := fun (p : Nat) (e : kk = p + 1) (y : Hnd) (hy : (handsL c l)[p]? = some y) => hand_prev HD.out hy (e ▸ hx)
      have RD := Lib.hid rd; have HPV := Lib.hid hpv
      have e0 : wr.cell? ⟨bh, fh + kk * 3, none⟩ = some (.int .i64 x.a) := by simpa using hcx wr (Ext.refl _) 0 _ rfl
      have e1 : wr.cell? ⟨bh, fh + kk * 3 + 1, none⟩ = some (.int .i64 x.b) := hcx wr (Ext.refl _) 1 _ rfl
      have e2 : wr.cell? ⟨bh, fh + kk * 3 + 2, none⟩ = some (.int .i64 x.n) := hcx wr (Ext.refl _) 2 _ rfl
      clear rd hpv hx hcx
      obtain ⟨w3, hw3⟩ : ∃ w3, w3 = wr.alloc (.cells #[.int .i64 x.a, .int .i64 x.b, .int .i64 x.n] 99) := ⟨_, rfl⟩
      have BY := Lib.hid (show Blk w3 wr.heap.size 99 #[.int .i64 x.a, .int .i64 x.b, .int .i64 x.n] from hw3 ▸ Blk.new _ _ _)
      have E3 := Lib.hid (show Ext wr w3 from hw3 ▸ Ext.al _ _)
      have HNG := Lib.hid (show wr.heap.size ≠ gb by have := RX.out.lt; omega)
      go_wp2
      rw [← hw3]
      clear hw3 e0 e1 e2
      have m0 := fun W (h : Ext w3 W) => (BX.out.ext (E3.out.trans h)).c2
      have m1 := fun W (h : Ext w3 W) => (BY.out.ext h).c3
      refine wp_region_tame (fun W => Ext w3 W) (fun W W' => Ext W W') (by kernel_rfl) 278 rfl (by decide +kernel) (Ext.refl _).drew ?_
      repeat (apply tame_q rfl; (intro ρ W hC hr hD; (obtain ⟨hrc, hrg, hrf, hrs⟩ := hr); (simp [go_sem] at hD); go_simp; first | exact ⟨⟨hC, Ext.refl _⟩, rfl⟩ | exact ⟨⟨hC, RS.refl _⟩, rfl⟩ | exact rfl); simp only [List.nil_append, List.cons_append])
      apply tame_q rfl
      · intro ρ W hC hr hD
        obtain ⟨hrc, hrg, hrf, hrs⟩ := hr
        simp [go_sem] at hD
        go_simp
        refine (house_at c x.a s _ _ W (HH.out.ext (EC.out.trans (E3.out.trans hC))) (HS.out.ext (EC.out.trans (E3.out.trans hC))) RD.out.hs).mono ?_
        rintro e w' ⟨rfl, hE⟩
        exact ⟨_, rfl, ⟨hC.trans hE, hE⟩, rfl⟩
      simp only [List.nil_append, List.cons_append]
      repeat (apply tame_q rfl; (intro ρ W hC hr hD; (obtain ⟨hrc, hrg, hrf, hrs⟩ := hr); (simp [go_sem] at hD); go_simp; first | exact ⟨⟨hC, Ext.refl _⟩, rfl⟩ | exact ⟨⟨hC, RS.refl _⟩, rfl⟩ | exact rfl); simp only [List.nil_append, List.cons_append])
      apply tame_q rfl
      · intro ρ W hC hr hD
        obtain ⟨hrc, hrg, hrf, hrs⟩ := hr
        simp [go_sem] at hD
        go_simp
        refine (house_at c x.b t _ _ W (HH.out.ext (EC.out.trans (E3.out.trans hC))) (HS.out.ext (EC.out.trans (E3.out.trans hC))) RD.out.ht).mono ?_
        rintro e w' ⟨rfl, hE⟩
        exact ⟨_, rfl, ⟨hC.trans hE, hE⟩, rfl⟩
      simp only [List.nil_append, List.cons_append]
      repeat (apply tame_q rfl; (intro ρ W hC hr hD; (obtain ⟨hrc, hrg, hrf, hrs⟩ := hr); (simp [go_sem] at hD); go_simp; first | exact ⟨⟨hC, Ext.refl _⟩, rfl⟩ | exact ⟨⟨hC, RS.refl _⟩, rfl⟩ | exact rfl); simp only [List.nil_append, List.cons_append])
      refine tame_end_put rfl rfl (fun ρ W hC hr hF => ?_)
      simp [go_sem] at hF
      simp only [putF, hF, List.set_cons_succ, List.set_cons_zero]
      clear hF hr
      have E4 := Lib.hid (E3.out.trans hC)
      have BY4 := Lib.hid (BY.out.ext hC)
      clear hC m0 m1 E3 BY
      obtain ⟨w4, hw4⟩ : ∃ w4, w4 = W := ⟨_, rfl⟩
      subst hw4
      have hn1 : ¬ x.n < 1 := by have := RD.out.n; omega
      have hn9 : ¬ 90 < x.n := by have := RD.out.n; omega
      have hz0 : ¬ ((s : Int) < 0) := by omega
      have hz1 : ¬ ((t : Int) < 0) := by omega
      have m1 := fun W (h : Ext w4 W) => (BY4.out.ext h).c3
      by_cases hk0 : kk = 0
      · have hk1 : ¬ (0 < (kk : Int)) := by omega
        have hk3 : ¬ (0 < kk) := by omega
        clear hk0
        go_wp2
        refine wp_region_tame (fun W => Ext w4 W) (fun W W' => Ext W W') (by kernel_rfl) 278 rfl (by decide +kernel) (Ext.refl _).drew ?_
        repeat (apply tame_q rfl; (intro ρ W hC hr hD; (obtain ⟨hrc, hrg, hrf, hrs⟩ := hr); (simp [go_sem] at hD); go_simp; first | exact ⟨⟨hC, Ext.refl _⟩, rfl⟩ | exact ⟨⟨hC, RS.refl _⟩, rfl⟩ | exact rfl); simp only [List.nil_append, List.cons_append])
        refine tame_end_put rfl rfl (fun ρ W hC hr hF => ?_)
        simp [go_sem] at hF
        simp only [putF, hF, List.set_cons_succ, List.set_cons_zero]
        clear hF hr
        have E5 := Lib.hid (E4.out.trans hC)
        have BY5 := Lib.hid (BY4.out.ext hC)
        clear hC m1
        have EC5 := Lib.hid (EC.out.trans E5.out)
        have t0 := (BX.out.ext E5.out).c2
        have t1 := BY5.out.c3
        go_wp2_with fail
        clear t0 t1 hn1 hn9 hz0 hz1 hk1 hk3
        refine (way_any c x.a x.b way 0 _ _ _ RD.out.w (HT.out.ext EC5.out) (HH.out.ext EC5.out) (HS.out.ext EC5.out) (by have := HN.out; omega)).mono ?_
        rintro e w6' ⟨⟨v, rfl, hv⟩, hE⟩
        obtain ⟨Aw, nw, cw, rfl, hnw, -, -⟩ := hv.form
        have HNW := Lib.hid (show nw = d by rw [hnw.out]; exact RD.out.wl)
        have hnw0 : ¬ (nw : Int) = 0 := by have := RD.out.d0; have := HNW.out; omega
        have hnw1 : ¬ nw = 0 := by have := RD.out.d0; have := HNW.out; omega
        have E6' := Lib.hid (E5.out.trans hE)
        have BY6 := Lib.hid (BY5.out.ext hE)
        have RX6 := Lib.hid (RX.out.ext E6'.out)
        have hwP : IntKind.i64.wrap (P + x.n) = P + x.n := by rw [IntKind.wrap_i64]; have := RD.out.pb; have := RD.out.n; omega
        have hwQ : IntKind.i64.wrap (Q - x.n) = Q - x.n := by rw [IntKind.wrap_i64]; have := RD.out.qb; have := RD.out.n; omega
        have hsz : (s : Int) < (n : Int) := by have := RD.out.sl; have := hn.out; omega
        have htz : (t : Int) < (n : Int) := by have := RD.out.tl; have := hn.out; omega
        clear hE hv E5 BY5
        go_wp2
        have m1 := fun W (h : Ext w6' W) => (BY6.out.ext h).c3
        have m4 := fun W (h : Ext w6' W) => (show W.cell? ⟨gb, s, none⟩ = some (.int .i64 P) from (RX6.out.ext h).cell RD.out.p)
        refine wp_region_tame_cut (fun W => Ext w6' W) (fun W W' => Ext W W') (by kernel_rfl) 278 rfl _ rfl (by decide +kernel) (by decide +kernel) (by decide +kernel) rfl (Ext.refl _).drew ?_
        simp only [List.dropLast]
        repeat (apply tame_q rfl; (intro ρ W hC hr hD; (obtain ⟨hrc, hrg, hrf, hrs⟩ := hr); (simp [go_sem] at hD); go_simp; first | exact ⟨⟨hC, Ext.refl _⟩, rfl⟩ | exact ⟨⟨hC, RS.refl _⟩, rfl⟩ | exact rfl); simp only [List.nil_append, List.cons_append])
        refine tame_end_put rfl rfl (fun ρ W hC hr hF => ?_)
        simp [go_sem] at hF
        simp only [putF, hF, List.set_cons_succ, List.set_cons_zero]
        clear hF hr
        have RX7 := Lib.hid (RX6.out.ext hC)
        have r0 := RX7.out.cell RD.out.p
        have rf := RX7.out.frozen
        have rl := RX7.out.lt
        have E7 := Lib.hid (E6'.out.trans hC)
        have BY7 := Lib.hid (BY6.out.ext hC)
        clear hC m1 m4 RX6 E6' BY6
        go_wp2
        obtain ⟨w8, hw8⟩ : ∃ w8, w8 = W.setCell ⟨gb, s, none⟩ (.int .i64 (P + x.n)) := ⟨_, rfl⟩
        have RX8 := Lib.hid (show RowI w8 gb ((payL c ((handsL c l).take kk) (getsL c (balesOf c))).set s (P + x.n)) from hw8 ▸ RX7.out.set _ _)
        have EX8 := Lib.hid (show Ext w2 w8 from hw8 ▸ (EX.out.trans E7.out).setCell (by dsimp only; exact HGB.out) _)
        have EG8 := Lib.hid (show w6.grownBy w8 (some gb) from hw8 ▸ grown_set (grown_ext EG.out E7.out) (p := ⟨gb, s, none⟩) (.inl rfl) _)
        have BY8 := Lib.hid (show Blk w8 wr.heap.size 99 #[.int .i64 x.a, .int .i64 x.b, .int .i64 x.n] from hw8 ▸ BY7.out.far (by dsimp only; exact HNG.out) _)
        rw [← hw8]
        clear hw8 r0 rf rl RX7 E7 BY7
        have m1 := fun W (h : Ext w8 W) => (BY8.out.ext h).c3
        have m4 := fun W (h : Ext w8 W) => (show W.cell? ⟨gb, t, none⟩ = some (.int .i64 Q) from (RX8.out.ext h).cell (by rw [List.getElem?_set, if_neg RD.out.ne]; exact RD.out.q))
        refine wp_region_tame_cut (fun W => Ext w8 W) (fun W W' => Ext W W') (by kernel_rfl) 278 rfl _ rfl (by decide +kernel) (by decide +kernel) (by decide +kernel) rfl (Ext.refl _).drew ?_
        simp only [List.dropLast]
        repeat (apply tame_q rfl; (intro ρ W hC hr hD; (obtain ⟨hrc, hrg, hrf, hrs⟩ := hr); (simp [go_sem] at hD); go_simp; first | exact ⟨⟨hC, Ext.refl _⟩, rfl⟩ | exact ⟨⟨hC, RS.refl _⟩, rfl⟩ | exact rfl); simp only [List.nil_append, List.cons_append])
        refine tame_end_put rfl rfl (fun ρ W hC hr hF => ?_)
        simp [go_sem] at hF
        simp only [putF, hF, List.set_cons_succ, List.set_cons_zero]
        clear hF hr
        have RX9 := Lib.hid (RX8.out.ext hC)
        have r0 := RX9.out.cell (i := t) (x := Q) (by rw [List.getElem?_set, if_neg RD.out.ne]; exact RD.out.q)
        have rf := RX9.out.frozen
        have rl := RX9.out.lt
        have EX9 := Lib.hid (EX8.out.trans hC)
        have EG9 := Lib.hid (grown_ext EG8.out hC)
        have BY9 := Lib.hid (BY8.out.ext hC)
        have y0 := BY9.out.c3
        have hyg : ¬ wr.heap.size = gb := HNG.out
        have hyg' : ¬ gb = wr.heap.size := fun e => HNG.out e.symm
        have hmul : IntKind.i64.wrap (x.n * (nw : Int)) = x.n * (nw : Int) := by
          rw [IntKind.wrap_i64]
          have h1 := RD.out.n; have h2 := RD.out.d9; have h3 := HNW.out
          have h4 : (nw : Int) ≤ 90 := by omega
          have h5 : x.n * (nw : Int) ≤ 90 * 90 := Int.mul_le_mul h1.2 h4 (by omega) (by omega)
          have h6 : 0 ≤ x.n * (nw : Int) := Int.mul_nonneg (by omega) (by omega)
          omega
        have HM2 := Lib.hid (show -8100 ≤ x.n * (nw : Int) ∧ x.n * (nw : Int) ≤ 8100 by
          have h1 := RD.out.n; have h2 := RD.out.d9; have h3 := HNW.out
          have h4 : (nw : Int) ≤ 90 := by omega
          have h5 : x.n * (nw : Int) ≤ 90 * 90 := Int.mul_le_mul h1.2 h4 (by omega) (by omega)
          have h6 : 0 ≤ x.n * (nw : Int) := Int.mul_nonneg (by omega) (by omega)
          omega)
        have hsum : IntKind.i64.wrap (wsum (fun a b => (D a b : Int)) ((handsL c l).take kk) + x.n * (nw : Int)) = wsum (fun a b => (D a b : Int)) ((handsL c l).take kk) + x.n * (nw : Int) := by
          rw [IntKind.wrap_i64]
          have h1 := RD.out.sb; have h2 := HM2.out
          omega
        clear hC m1 m4 RX8 EX8 EG8 BY8
        go_wp2
        go_roundg (nh - (kk + 1))
        case measure => omega
        case rel => exact ⟨kk + 1, by omega, by omega, by simp, by rw [RD.out.sum, HNW.out], EX9.out.setCell (by dsimp only; exact HGB.out) _, grown_set EG9.out (p := ⟨gb, t, none⟩) (.inl rfl) _, by show RowI _ _ _; rw [RD.out.pay]; exact RX9.out.set _ _⟩
      · obtain ⟨p, hp⟩ : ∃ p, kk = p + 1 := ⟨kk - 1, by omega⟩
        have hpl : p < nh := by omega
        obtain ⟨bh', fh', y, eA, hy, -, hcy⟩ := HX.out.at_ hpl
        cases eA
        have hk1 : (0 : Int) < (kk : Int) := by omega
        have hk3 : 0 < kk := by omega
        have hk2 : IntKind.i64.wrap ((kk : Int) - 1) = (p : Int) := by rw [IntKind.wrap_i64]; omega
        have hplz : (p : Int) < (nh : Int) := by omega
        have q0 := fun W (h : Ext w4 W) => (show W.cell? ⟨bh, fh + p * 3, none⟩ = some (.int .i64 y.a) by simpa using hcy W (E4.out.trans h) 0 _ rfl)
        have q1 := fun W (h : Ext w4 W) => (show W.cell? ⟨bh, fh + p * 3 + 1, none⟩ = some (.int .i64 y.b) from hcy W (E4.out.trans h) 1 _ rfl)
        have hyx := HPV.out p hp y hy
        clear hy hcy hk0 hp
        rcases hyx with g0 | ⟨g0, g2⟩
        · have g1 : ¬ x.a < y.a := by omega
          have g3 : (y.a == x.a) = false := by rw [beq_eq_false_iff_ne]; omega
          clear g0
          go_wp2
          refine wp_region_tame (fun W => Ext w4 W) (fun W W' => Ext W W') (by kernel_rfl) 278 rfl (by decide +kernel) (Ext.refl _).drew ?_
          repeat (apply tame_q rfl; (intro ρ W hC hr hD; (obtain ⟨hrc, hrg, hrf, hrs⟩ := hr); (simp [go_sem] at hD); go_simp; first | exact ⟨⟨hC, Ext.refl _⟩, rfl⟩ | exact ⟨⟨hC, RS.refl _⟩, rfl⟩ | exact rfl); simp only [List.nil_append, List.cons_append])
          refine tame_end_put rfl rfl (fun ρ W hC hr hF => ?_)
          simp [go_sem] at hF
          simp only [putF, hF, List.set_cons_succ, List.set_cons_zero]
          clear hF hr
          have E5 := Lib.hid (E4.out.trans hC)
          have BY5 := Lib.hid (BY4.out.ext hC)
          clear hC m1
          clear q0 q1
          have EC5 := Lib.hid (EC.out.trans E5.out)
          have t0 := (BX.out.ext E5.out).c2
          have t1 := BY5.out.c3
          go_wp2_with fail
          clear t0 t1 hn1 hn9 hz0 hz1 hk1 hk3
          refine (way_any c x.a x.b way 0 _ _ _ RD.out.w (HT.out.ext EC5.out) (HH.out.ext EC5.out) (HS.out.ext EC5.out) (by have := HN.out; omega)).mono ?_
          rintro e w6' ⟨⟨v, rfl, hv⟩, hE⟩
          obtain ⟨Aw, nw, cw, rfl, hnw, -, -⟩ := hv.form
          have HNW := Lib.hid (show nw = d by rw [hnw.out]; exact RD.out.wl)
          have hnw0 : ¬ (nw : Int) = 0 := by have := RD.out.d0; have := HNW.out; omega
          have hnw1 : ¬ nw = 0 := by have := RD.out.d0; have := HNW.out; omega
          have E6' := Lib.hid (E5.out.trans hE)
          have BY6 := Lib.hid (BY5.out.ext hE)
          have RX6 := Lib.hid (RX.out.ext E6'.out)
          have hwP : IntKind.i64.wrap (P + x.n) = P + x.n := by rw [IntKind.wrap_i64]; have := RD.out.pb; have := RD.out.n; omega
          have hwQ : IntKind.i64.wrap (Q - x.n) = Q - x.n := by rw [IntKind.wrap_i64]; have := RD.out.qb; have := RD.out.n; omega
          have hsz : (s : Int) < (n : Int) := by have := RD.out.sl; have := hn.out; omega
          have htz : (t : Int) < (n : Int) := by have := RD.out.tl; have := hn.out; omega
          clear hE hv E5 BY5
          go_wp2
          have m1 := fun W (h : Ext w6' W) => (BY6.out.ext h).c3
          have m4 := fun W (h : Ext w6' W) => (show W.cell? ⟨gb, s, none⟩ = some (.int .i64 P) from (RX6.out.ext h).cell RD.out.p)
          refine wp_region_tame_cut (fun W => Ext w6' W) (fun W W' => Ext W W') (by kernel_rfl) 278 rfl _ rfl (by decide +kernel) (by decide +kernel) (by decide +kernel) rfl (Ext.refl _).drew ?_
          simp only [List.dropLast]
          repeat (apply tame_q rfl; (intro ρ W hC hr hD; (obtain ⟨hrc, hrg, hrf, hrs⟩ := hr); (simp [go_sem] at hD); go_simp; first | exact ⟨⟨hC, Ext.refl _⟩, rfl⟩ | exact ⟨⟨hC, RS.refl _⟩, rfl⟩ | exact rfl); simp only [List.nil_append, List.cons_append])
          refine tame_end_put rfl rfl (fun ρ W hC hr hF => ?_)
          simp [go_sem] at hF
          simp only [putF, hF, List.set_cons_succ, List.set_cons_zero]
          clear hF hr
          have RX7 := Lib.hid (RX6.out.ext hC)
          have r0 := RX7.out.cell RD.out.p
          have rf := RX7.out.frozen
          have rl := RX7.out.lt
          have E7 := Lib.hid (E6'.out.trans hC)
          have BY7 := Lib.hid (BY6.out.ext hC)
          clear hC m1 m4 RX6 E6' BY6
          go_wp2
          obtain ⟨w8, hw8⟩ : ∃ w8, w8 = W.setCell ⟨gb, s, none⟩ (.int .i64 (P + x.n)) := ⟨_, rfl⟩
          have RX8 := Lib.hid (show RowI w8 gb ((payL c ((handsL c l).take kk) (getsL c (balesOf c))).set s (P + x.n)) from hw8 ▸ RX7.out.set _ _)
          have EX8 := Lib.hid (show Ext w2 w8 from hw8 ▸ (EX.out.trans E7.out).setCell (by dsimp only; exact HGB.out) _)
          have EG8 := Lib.hid (show w6.grownBy w8 (some gb) from hw8 ▸ grown_set (grown_ext EG.out E7.out) (p := ⟨gb, s, none⟩) (.inl rfl) _)
          have BY8 := Lib.hid (show Blk w8 wr.heap.size 99 #[.int .i64 x.a, .int .i64 x.b, .int .i64 x.n] from hw8 ▸ BY7.out.far (by dsimp only; exact HNG.out) _)
          rw [← hw8]
          clear hw8 r0 rf rl RX7 E7 BY7
          have m1 := fun W (h : Ext w8 W) => (BY8.out.ext h).c3
          have m4 := fun W (h : Ext w8 W) => (show W.cell? ⟨gb, t, none⟩ = some (.int .i64 Q) from (RX8.out.ext h).cell (by rw [List.getElem?_set, if_neg RD.out.ne]; exact RD.out.q))
          refine wp_region_tame_cut (fun W => Ext w8 W) (fun W W' => Ext W W') (by kernel_rfl) 278 rfl _ rfl (by decide +kernel) (by decide +kernel) (by decide +kernel) rfl (Ext.refl _).drew ?_
          simp only [List.dropLast]
          repeat (apply tame_q rfl; (intro ρ W hC hr hD; (obtain ⟨hrc, hrg, hrf, hrs⟩ := hr); (simp [go_sem] at hD); go_simp; first | exact ⟨⟨hC, Ext.refl _⟩, rfl⟩ | exact ⟨⟨hC, RS.refl _⟩, rfl⟩ | exact rfl); simp only [List.nil_append, List.cons_append])
          refine tame_end_put rfl rfl (fun ρ W hC hr hF => ?_)
          simp [go_sem] at hF
          simp only [putF, hF, List.set_cons_succ, List.set_cons_zero]
          clear hF hr
          have RX9 := Lib.hid (RX8.out.ext hC)
          have r0 := RX9.out.cell (i := t) (x := Q) (by rw [List.getElem?_set, if_neg RD.out.ne]; exact RD.out.q)
          have rf := RX9.out.frozen
          have rl := RX9.out.lt
          have EX9 := Lib.hid (EX8.out.trans hC)
          have EG9 := Lib.hid (grown_ext EG8.out hC)
          have BY9 := Lib.hid (BY8.out.ext hC)
          have y0 := BY9.out.c3
          have hyg : ¬ wr.heap.size = gb := HNG.out
          have hyg' : ¬ gb = wr.heap.size := fun e => HNG.out e.symm
          have hmul : IntKind.i64.wrap (x.n * (nw : Int)) = x.n * (nw : Int) := by
            rw [IntKind.wrap_i64]
            have h1 := RD.out.n; have h2 := RD.out.d9; have h3 := HNW.out
            have h4 : (nw : Int) ≤ 90 := by omega
            have h5 : x.n * (nw : Int) ≤ 90 * 90 := Int.mul_le_mul h1.2 h4 (by omega) (by omega)
            have h6 : 0 ≤ x.n * (nw : Int) := Int.mul_nonneg (by omega) (by omega)
            omega
          have HM2 := Lib.hid (show -8100 ≤ x.n * (nw : Int) ∧ x.n * (nw : Int) ≤ 8100 by
            have h1 := RD.out.n; have h2 := RD.out.d9; have h3 := HNW.out
            have h4 : (nw : Int) ≤ 90 := by omega
            have h5 : x.n * (nw : Int) ≤ 90 * 90 := Int.mul_le_mul h1.2 h4 (by omega) (by omega)
            have h6 : 0 ≤ x.n * (nw : Int) := Int.mul_nonneg (by omega) (by omega)
            omega)
          have hsum : IntKind.i64.wrap (wsum (fun a b => (D a b : Int)) ((handsL c l).take kk) + x.n * (nw : Int)) = wsum (fun a b => (D a b : Int)) ((handsL c l).take kk) + x.n * (nw : Int) := by
            rw [IntKind.wrap_i64]
            have h1 := RD.out.sb; have h2 := HM2.out
            omega
          clear hC m1 m4 RX8 EX8 EG8 BY8
          go_wp2
          go_roundg (nh - (kk + 1))
          case measure => omega
          case rel => exact ⟨kk + 1, by omega, by omega, by simp, by rw [RD.out.sum, HNW.out], EX9.out.setCell (by dsimp only; exact HGB.out) _, grown_set EG9.out (p := ⟨gb, t, none⟩) (.inl rfl) _, by show RowI _ _ _; rw [RD.out.pay]; exact RX9.out.set _ _⟩
        · have g1 : ¬ x.a < y.a := by omega
          have g3 : (y.a == x.a) = true := by rw [beq_iff_eq]; omega
          have g4 : ¬ x.b ≤ y.b := by omega
          clear g0 g2
          go_wp2
          refine wp_region_tame (fun W => Ext w4 W) (fun W W' => Ext W W') (by kernel_rfl) 278 rfl (by decide +kernel) (Ext.refl _).drew ?_
          repeat (apply tame_q rfl; (intro ρ W hC hr hD; (obtain ⟨hrc, hrg, hrf, hrs⟩ := hr); (simp [go_sem] at hD); go_simp; first | exact ⟨⟨hC, Ext.refl _⟩, rfl⟩ | exact ⟨⟨hC, RS.refl _⟩, rfl⟩ | exact rfl); simp only [List.nil_append, List.cons_append])
          refine tame_end_put rfl rfl (fun ρ W hC hr hF => ?_)
          simp [go_sem] at hF
          simp only [putF, hF, List.set_cons_succ, List.set_cons_zero]
          clear hF hr
          have E5 := Lib.hid (E4.out.trans hC)
          have BY5 := Lib.hid (BY4.out.ext hC)
          clear hC m1
          clear q0 q1
          have EC5 := Lib.hid (EC.out.trans E5.out)
          have t0 := (BX.out.ext E5.out).c2
          have t1 := BY5.out.c3
          go_wp2_with fail
          clear t0 t1 hn1 hn9 hz0 hz1 hk1 hk3
          refine (way_any c x.a x.b way 0 _ _ _ RD.out.w (HT.out.ext EC5.out) (HH.out.ext EC5.out) (HS.out.ext EC5.out) (by have := HN.out; omega)).mono ?_
          rintro e w6' ⟨⟨v, rfl, hv⟩, hE⟩
          obtain ⟨Aw, nw, cw, rfl, hnw, -, -⟩ := hv.form
          have HNW := Lib.hid (show nw = d by rw [hnw.out]; exact RD.out.wl)
          have hnw0 : ¬ (nw : Int) = 0 := by have := RD.out.d0; have := HNW.out; omega
          have hnw1 : ¬ nw = 0 := by have := RD.out.d0; have := HNW.out; omega
          have E6' := Lib.hid (E5.out.trans hE)
          have BY6 := Lib.hid (BY5.out.ext hE)
          have RX6 := Lib.hid (RX.out.ext E6'.out)
          have hwP : IntKind.i64.wrap (P + x.n) = P + x.n := by rw [IntKind.wrap_i64]; have := RD.out.pb; have := RD.out.n; omega
          have hwQ : IntKind.i64.wrap (Q - x.n) = Q - x.n := by rw [IntKind.wrap_i64]; have := RD.out.qb; have := RD.out.n; omega
          have hsz : (s : Int) < (n : Int) := by have := RD.out.sl; have := hn.out; omega
          have htz : (t : Int) < (n : Int) := by have := RD.out.tl; have := hn.out; omega
          clear hE hv E5 BY5
          go_wp2
          have m1 := fun W (h : Ext w6' W) => (BY6.out.ext h).c3
          have m4 := fun W (h : Ext w6' W) => (show W.cell? ⟨gb, s, none⟩ = some (.int .i64 P) from (RX6.out.ext h).cell RD.out.p)
          refine wp_region_tame_cut (fun W => Ext w6' W) (fun W W' => Ext W W') (by kernel_rfl) 278 rfl _ rfl (by decide +kernel) (by decide +kernel) (by decide +kernel) rfl (Ext.refl _).drew ?_
          simp only [List.dropLast]
          repeat (apply tame_q rfl; (intro ρ W hC hr hD; (obtain ⟨hrc, hrg, hrf, hrs⟩ := hr); (simp [go_sem] at hD); go_simp; first | exact ⟨⟨hC, Ext.refl _⟩, rfl⟩ | exact ⟨⟨hC, RS.refl _⟩, rfl⟩ | exact rfl); simp only [List.nil_append, List.cons_append])
          refine tame_end_put rfl rfl (fun ρ W hC hr hF => ?_)
          simp [go_sem] at hF
          simp only [putF, hF, List.set_cons_succ, List.set_cons_zero]
          clear hF hr
          have RX7 := Lib.hid (RX6.out.ext hC)
          have r0 := RX7.out.cell RD.out.p
          have rf := RX7.out.frozen
          have rl := RX7.out.lt
          have E7 := Lib.hid (E6'.out.trans hC)
          have BY7 := Lib.hid (BY6.out.ext hC)
          clear hC m1 m4 RX6 E6' BY6
          go_wp2
          obtain ⟨w8, hw8⟩ : ∃ w8, w8 = W.setCell ⟨gb, s, none⟩ (.int .i64 (P + x.n)) := ⟨_, rfl⟩
          have RX8 := Lib.hid (show RowI w8 gb ((payL c ((handsL c l).take kk) (getsL c (balesOf c))).set s (P + x.n)) from hw8 ▸ RX7.out.set _ _)
          have EX8 := Lib.hid (show Ext w2 w8 from hw8 ▸ (EX.out.trans E7.out).setCell (by dsimp only; exact HGB.out) _)
          have EG8 := Lib.hid (show w6.grownBy w8 (some gb) from hw8 ▸ grown_set (grown_ext EG.out E7.out) (p := ⟨gb, s, none⟩) (.inl rfl) _)
          have BY8 := Lib.hid (show Blk w8 wr.heap.size 99 #[.int .i64 x.a, .int .i64 x.b, .int .i64 x.n] from hw8 ▸ BY7.out.far (by dsimp only; exact HNG.out) _)
          rw [← hw8]
          clear hw8 r0 rf rl RX7 E7 BY7
          have m1 := fun W (h : Ext w8 W) => (BY8.out.ext h).c3
          have m4 := fun W (h : Ext w8 W) => (show W.cell? ⟨gb, t, none⟩ = some (.int .i64 Q) from (RX8.out.ext h).cell (by rw [List.getElem?_set, if_neg RD.out.ne]; exact RD.out.q))
          refine wp_region_tame_cut (fun W => Ext w8 W) (fun W W' => Ext W W') (by kernel_rfl) 278 rfl _ rfl (by decide +kernel) (by decide +kernel) (by decide +kernel) rfl (Ext.refl _).drew ?_
          simp only [List.dropLast]
          repeat (apply tame_q rfl; (intro ρ W hC hr hD; (obtain ⟨hrc, hrg, hrf, hrs⟩ := hr); (simp [go_sem] at hD); go_simp; first | exact ⟨⟨hC, Ext.refl _⟩, rfl⟩ | exact ⟨⟨hC, RS.refl _⟩, rfl⟩ | exact rfl); simp only [List.nil_append, List.cons_append])
          refine tame_end_put rfl rfl (fun ρ W hC hr hF => ?_)
          simp [go_sem] at hF
          simp only [putF, hF, List.set_cons_succ, List.set_cons_zero]
          clear hF hr
          have RX9 := Lib.hid (RX8.out.ext hC)
          have r0 := RX9.out.cell (i := t) (x := Q) (by rw [List.getElem?_set, if_neg RD.out.ne]; exact RD.out.q)
          have rf := RX9.out.frozen
          have rl := RX9.out.lt
          have EX9 := Lib.hid (EX8.out.trans hC)
          have EG9 := Lib.hid (grown_ext EG8.out hC)
          have BY9 := Lib.hid (BY8.out.ext hC)
          have y0 := BY9.out.c3
          have hyg : ¬ wr.heap.size = gb := HNG.out
          have hyg' : ¬ gb = wr.heap.size := fun e => HNG.out e.symm
          have hmul : IntKind.i64.wrap (x.n * (nw : Int)) = x.n * (nw : Int) := by
            rw [IntKind.wrap_i64]
            have h1 := RD.out.n; have h2 := RD.out.d9; have h3 := HNW.out
            have h4 : (nw : Int) ≤ 90 := by omega
            have h5 : x.n * (nw : Int) ≤ 90 * 90 := Int.mul_le_mul h1.2 h4 (by omega) (by omega)
            have h6 : 0 ≤ x.n * (nw : Int) := Int.mul_nonneg (by omega) (by omega)
            omega
          have HM2 := Lib.hid (show -8100 ≤ x.n * (nw : Int) ∧ x.n * (nw : Int) ≤ 8100 by
            have h1 := RD.out.n; have h2 := RD.out.d9; have h3 := HNW.out
            have h4 : (nw : Int) ≤ 90 := by omega
            have h5 : x.n * (nw : Int) ≤ 90 * 90 := Int.mul_le_mul h1.2 h4 (by omega) (by omega)
            have h6 : 0 ≤ x.n * (nw : Int) := Int.mul_nonneg (by omega) (by omega)
            omega)
          have hsum : IntKind.i64.wrap (wsum (fun a b => (D a b : Int)) ((handsL c l).take kk) + x.n * (nw : Int)) = wsum (fun a b => (D a b : Int)) ((handsL c l).take kk) + x.n * (nw : Int) := by
            rw [IntKind.wrap_i64]
            have h1 := RD.out.sb; have h2 := HM2.out
            omega
          clear hC m1 m4 RX8 EX8 EG8 BY8
          go_wp2
          go_roundg (nh - (kk + 1))
          case measure => omega
          case rel => exact ⟨kk + 1, by omega, by omega, by simp, by rw [RD.out.sum, HNW.out], EX9.out.setCell (by dsimp only; exact HGB.out) _, grown_set EG9.out (p := ⟨gb, t, none⟩) (.inl rfl) _, by show RowI _ _ _; rw [RD.out.pay]; exact RX9.out.set _ _⟩
    · have hkk : kk = nh := by omega
      have HTK := Lib.hid (show (handsL c l).take kk = handsL c l from List.take_of_length_le (by have := hnh.out; omega))
      have hpe := hand_end HD.out
      have RZ := Lib.hid (show RowI wr gb (List.replicate n 0) by have := RX.out; rw [HTK.out, hpe, ← hn.out] at this; exact this)
      have PX := Lib.hid (show SlI wr (.slice Ap np cpp) (passesL c l) from P6.out.older P7.out (by omega) EG.out)
      have MX := Lib.hid (show SlI wr (.slice Am n2 cm) l from M6.out.older M7.out (by omega) EG.out)
      have HSM := Lib.hid HD.out.s
      rw [HTK.out]
      clear hpe hkk
      repeat (first | exact owedNone_wp (c := c) (l := l) HH.out HS.out HC.out hn.out hn2.out HLL.out EC.out BX.out PX.out MX.out HSM.out RZ.out ⟨rfl, rfl, by simp [Act.eval]⟩ | go_values | go_skip | go_guarded | go_step | go_upon | go_back | (simp only [Int.not_lt, Int.not_le] at *; go_simp))
end Go.Proofs.YtafdbgielmlihaaDoor
/- The law ChainHanded: the walk, but for alive. -/
namespace Go.Proofs.YtafdbgielmlihaaDoor
open Go.RowKit Go.Shelf Go.Lib
set_option maxRecDepth 100000
set_option linter.unusedSimpArgs false

set_option maxHeartbeats 8000000 in
theorem handedLaw_of (hA : AliveT) (c : Chn) (hv sv : Value) (w : World) (hT : Tab w) (hh : SlI w hv c.houses) (hs : SlL w sv c.sales) :
    Calls Tryd.prog 12 #[valC hv sv] w fun e w' => e = .returned (.bool true) ∧ Ext w w' := by
  have HT := Lib.hid hT; have HH := Lib.hid hh; have HS := Lib.hid hs
  obtain ⟨A, n, cp, rfl, hn, hlc, hcm⟩ := hh.form
  obtain ⟨A2, n2, cp2, rfl, hn2, hlc2, hcm2⟩ := hs.form
  obtain ⟨l, hcl⟩ := closeOf_exists c
  have HCL := Lib.hid hcl
  have B0 := Lib.hid (show Blk (w.alloc (.cells #[.slice A n cp, .slice A2 n2 cp2] 25)) w.heap.size 25 #[.slice A n cp, .slice A2 n2 cp2] from Blk.new _ _ _)
  have E0 := Lib.hid (Ext.al w (.cells #[.slice A n cp, .slice A2 n2 cp2] 25))
  clear hh hs hT hcl
  go_enter Tryd.func12, Tryd.ntmps12
  go_wp2_with fail
  refine (hA _ (HT.out.ext E0.out)).mono ?_
  rintro e w1 ⟨rfl, hE⟩
  replace E0 := Lib.hid (E0.out.trans hE); replace B0 := Lib.hid (B0.out.ext hE); clear hE
  have t0 := B0.out.c2
  go_wp2_with fail
  refine (ready_any c _ _ _ (HH.out.ext E0.out) (HS.out.ext E0.out)).mono ?_
  rintro e w2 ⟨rfl, hE⟩
  replace E0 := Lib.hid (E0.out.trans hE); replace B0 := Lib.hid (B0.out.ext hE); clear hE t0
  cases hc : checkP c with
  | false =>
    clear hc
    go_wp2
    go_ret
    exact ⟨rfl, E0.out⟩
  | true =>
    have HC := Lib.hid hc; clear hc
    have HR := Lib.hid (check_right HC.out).1
    have HN := Lib.hid (check_right HC.out).2
    have HO := Lib.hid (HCL.out.1 HC.out)
    obtain ⟨D, hD⟩ := handAll_exists HC.out HO.out
    have HD := Lib.hid hD; clear hD
    have t0 := B0.out.c2
    go_wp2_with fail
    clear t0
    refine (owed_own c HC.out _ _ _ (HT.out.ext E0.out) (HH.out.ext E0.out) (HS.out.ext E0.out)).mono ?_
    rintro e w3 ⟨⟨gb, rfl, hgb, hu⟩, hE⟩
    rw [← hn.out]
    have RB := Lib.hid hu; have E3 := Lib.hid hE; have HGB := Lib.hid hgb
    have B3 := Lib.hid (B0.out.ext E3.out)
    have HG3 := Lib.hid (show gb + 1 ≤ w3.heap.size from hu.lt)
    have HBW := Lib.hid B0.out.lt
    have E03 := Lib.hid (E0.out.trans E3.out)
    clear hE hu hgb
    have t0 := B3.out.c2
    go_wp2_with fail
    clear t0
    refine (hands_own c l _ _ _ HCL.out (HT.out.ext E03.out) (HH.out.ext E03.out) (HS.out.ext E03.out) (by have := HN.out; omega)).mono ?_
    rintro e w4 ⟨⟨v6, rfl, hu, hnw⟩, hE⟩
    rw [HC.out]
    dsimp only [errB, if_true]
    have HL := Lib.hid hu; have HLn := Lib.hid (show NewAt (gb + 1) v6 from hnw.mono HG3.out); clear hnw
    have HZ4 := Lib.hid hE.size
    replace E3 := Lib.hid (E3.out.trans hE); replace E03 := Lib.hid (E03.out.trans hE); replace B3 := Lib.hid (B3.out.ext hE); replace RB := Lib.hid (RB.out.ext hE)
    clear hE hu
    have t0 := B3.out.c2
    go_wp2_with fail
    clear t0
    refine (passes_own c l _ _ _ HCL.out (HT.out.ext E03.out) (HH.out.ext E03.out) (HS.out.ext E03.out) (by have := HN.out; omega)).mono ?_
    rintro e w5 ⟨⟨v8, rfl, hu, hnw⟩, hE⟩
    rw [HC.out]
    dsimp only [errB, if_true]
    have PL := Lib.hid hu; have PLn := Lib.hid (show NewAt (gb + 1) v8 from hnw.mono (by have := HG3.out; have := HZ4.out; omega)); clear hnw
    have HZ5 := Lib.hid hE.size
    replace E3 := Lib.hid (E3.out.trans hE); replace E03 := Lib.hid (E03.out.trans hE); replace B3 := Lib.hid (B3.out.ext hE); replace RB := Lib.hid (RB.out.ext hE); replace HL := Lib.hid (HL.out.ext hE)
    clear hE hu
    have t0 := B3.out.c2
    go_wp2_with fail
    clear t0
    refine (close_own c l _ _ _ HCL.out (HT.out.ext E03.out) (HH.out.ext E03.out) (HS.out.ext E03.out) (by have := HN.out; omega)).mono ?_
    rintro e w6 ⟨⟨v10, rfl, hu, hnw⟩, hE⟩
    rw [HC.out]
    dsimp only [errB, if_true]
    have ML := Lib.hid hu; have MLn := Lib.hid (show NewAt (gb + 1) v10 from hnw.mono (by have := HG3.out; have := HZ4.out; have := HZ5.out; omega)); clear hnw
    replace E3 := Lib.hid (E3.out.trans hE); replace E03 := Lib.hid (E03.out.trans hE); replace B3 := Lib.hid (B3.out.ext hE); replace RB := Lib.hid (RB.out.ext hE); replace HL := Lib.hid (HL.out.ext hE); replace PL := Lib.hid (PL.out.ext hE)
    clear hE hu
    obtain ⟨Am, nm, cm, rfl, hnm, -, -⟩ := ML.out.form
    obtain ⟨Ah, nh, ch, rfl, -, -, -⟩ := HL.out.form
    obtain ⟨Ap, np, cpp, rfl, -, -, -⟩ := PL.out.form
    have HLL := Lib.hid (closes_close HO.out).len
    have em : n2 = nm := by have := hn2.out; have := hnm.out; have := HLL.out; omega
    subst em
    clear hnm
    have t0 := B3.out.c2
    repeat (first | exact hand_wp (c := c) (l := l) HT.out HH.out HS.out HC.out HO.out HD.out hn.out hn2.out HLL.out E0.out E3.out HGB.out HBW.out B3.out HL.out HLn.out PL.out PLn.out ML.out MLn.out RB.out ⟨rfl, rfl, by simp [Act.eval]⟩ | go_values | go_skip | go_guarded | go_step | go_upon | go_back)
end Go.Proofs.YtafdbgielmlihaaDoor
