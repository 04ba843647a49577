/- middlinglaw06.ChainTells: the walk. -/
import Derived.Test.YtafdbgielmlihaaDoorPkChTellsCardP
import Derived.Test.YtafdbgielmlihaaDoorPkChTellsCardQ
namespace Go.Proofs.YtafdbgielmlihaaDoor
open Go.RowKit Go.Shelf Go.Lib
set_option maxRecDepth 100000
set_option linter.unusedSimpArgs false

/-- What stands still while the law runs. -/
structure CsT (c : Chn) (w : World) (q : Nat) (hv sv h2 s2 : Value) (W : World) : Prop where
  e : Ext w W
  p : Blk W w.heap.size 25 #[hv, sv]
  q : Blk W q 25 #[h2, s2]
  t : Tab W
  a1 : SlI W hv c.houses
  a2 : SlL W sv c.sales
  b1 : SlI W h2 c.houses
  b2 : SlL W s2 c.sales
theorem CsT.ext {c : Chn} {w : World} {q : Nat} {hv sv h2 s2 : Value} {W W' : World} (h : CsT c w q hv sv h2 s2 W) (e : Ext W W') : CsT c w q hv sv h2 s2 W' :=
  ⟨h.e.trans e, h.p.ext e, h.q.ext e, h.t.ext e, h.a1.ext e, h.a2.ext e, h.b1.ext e, h.b2.ext e⟩
set_option maxHeartbeats 4000000 in
theorem tellsLaw_any (c : Chn) (hv sv : Value) (w : World) (hT : Tab w) (hh : SlI w hv c.houses) (hs : SlL w sv c.sales) :
    Calls Tryd.prog 3 #[valC hv sv] w fun e w' => e = .returned (.bool true) ∧ Ext w w' := by
  have HT := Lib.hid hT
  have HH := Lib.hid hh; have HS := Lib.hid hs
  obtain ⟨A, n, cp, rfl, hn, hlc, hcm⟩ := hh.form
  obtain ⟨A2, n2, cp2, rfl, hn2, hlc2, hcm2⟩ := hs.form
  obtain ⟨l, hcl⟩ := closeOf_exists c
  have HCL := Lib.hid hcl
  clear hh hs hT hcl
  go_enter Tryd.func3, Tryd.ntmps3
  go_wp2_with fail
  generalize hw0 : (w.alloc (.cells #[.slice A n cp, .slice A2 n2 cp2] 25)) = w0
  have HE0 := Lib.hid (show Ext w w0 from hw0 ▸ Ext.al _ _)
  have HB0 := Lib.hid (show Blk w0 w.heap.size 25 #[.slice A n cp, .slice A2 n2 cp2] from hw0 ▸ Blk.new _ _ _)
  clear hw0
  refine (great_any c _ _ _ (HH.out.ext HE0.out) (HS.out.ext HE0.out)).mono ?_
  rintro e w1 ⟨rfl, hE⟩
  have HE1 := Lib.hid (HE0.out.trans hE)
  have HB1 := Lib.hid (HB0.out.ext hE)
  clear hE HB0
  cases hg : greatB c with
  | true =>
    go_wp2
    go_ret
    exact ⟨rfl, HE1.out⟩
  | false =>
    have hlen : c.houses.length ≤ 15 ∧ c.sales.length ≤ 30 := by
      unfold greatB at hg; simp at hg; omega
    clear hg
    have HLE := Lib.hid hlen; clear hlen
    have x0 := HB1.out.c2
    go_wp2_with fail
    clear x0
    refine (twin_any c _ _ _ (HH.out.ext HE1.out) (HS.out.ext HE1.out) (by have := HLE.out; omega) (by have := HLE.out; omega)).mono ?_
    rintro e w2 ⟨⟨v, rfl, tv⟩, hE2⟩
    obtain ⟨dv, wv, rfl, o1, o2⟩ := tv
    obtain ⟨Ad, nd, cd, rfl, -, -, -⟩ := (show SlI w2 dv c.houses from o1.sl (fun _ => rfl)).form
    obtain ⟨Aw, nw, cw, rfl, -, -, -⟩ := (show SlL w2 wv c.sales from o2.sl (fun _ => rfl)).form
    have HTD := Lib.hid (show SlI w2 (.slice Ad nd cd) c.houses from o1.sl (fun _ => rfl))
    have HTW := Lib.hid (show SlL w2 (.slice Aw nw cw) c.sales from o2.sl (fun _ => rfl))
    have HE2 := Lib.hid (HE1.out.trans hE2)
    have HBx := Lib.hid (HB1.out.ext hE2)
    clear o1 o2 hE2 HB1 HE0 HE1
    dsimp only [valC]
    go_wp2_with fail
    have S := Lib.hid (show CsT c w w2.heap.size (.slice A n cp) (.slice A2 n2 cp2) (.slice Ad nd cd) (.slice Aw nw cw) (w2.alloc (.cells #[.slice Ad nd cd, .slice Aw nw cw] 25)) from
      ⟨HE2.out.alloc _, HBx.out.alloc _, Blk.new _ _ _, (HT.out.ext HE2.out).ext (Ext.al _ _), (HH.out.ext HE2.out).ext (Ext.al _ _), (HS.out.ext HE2.out).ext (Ext.al _ _), HTD.out.ext (Ext.al _ _), HTW.out.ext (Ext.al _ _)⟩)
    clear HT HH HS HTD HTW HBx HE2
    refine (owed_any c _ _ _ S.out.t S.out.b1 S.out.b2 (by have := HLE.out; omega)).mono ?_
    rintro e w3 ⟨⟨v1, rfl, hv1⟩, hE⟩
    have L1 := Lib.hid hv1; replace S := Lib.hid (S.out.ext hE)
    clear hv1 hE
    have x0 := S.out.p.c2
    go_wp2_with fail
    clear x0
    refine (refOwed_any c _ _ _ S.out.a1 S.out.a2).mono ?_
    rintro e w4 ⟨⟨v2, rfl, hv2⟩, hE⟩
    have L2 := Lib.hid hv2; replace L1 := Lib.hid (L1.out.ext hE); replace S := Lib.hid (S.out.ext hE)
    clear hv2 hE
    have x0 := S.out.q.c2
    go_wp2_with fail
    clear x0
    refine (close_any c l _ _ _ HCL.out S.out.t S.out.b1 S.out.b2 (by have := HLE.out; omega)).mono ?_
    rintro e w5 ⟨⟨v3, rfl, hv3⟩, hE⟩
    have L3 := Lib.hid hv3; replace L1 := Lib.hid (L1.out.ext hE); replace L2 := Lib.hid (L2.out.ext hE); replace S := Lib.hid (S.out.ext hE)
    clear hv3 hE
    have x0 := S.out.p.c2
    go_wp2_with fail
    clear x0
    refine (refClose_any c l _ _ _ HCL.out S.out.a1 S.out.a2).mono ?_
    rintro e w6 ⟨⟨v4, rfl, hv4⟩, hE⟩
    have L4 := Lib.hid hv4; replace L1 := Lib.hid (L1.out.ext hE); replace L2 := Lib.hid (L2.out.ext hE); replace L3 := Lib.hid (L3.out.ext hE); replace S := Lib.hid (S.out.ext hE)
    clear hv4 hE
    have m0 := fun W (h : Ext w6 W) => (S.out.ext h).p.c2
    have m1 := fun W (h : Ext w6 W) => (S.out.ext h).q.c2
    go_wp2
    refine wp_region_tame (fun W => Ext w6 W) (fun W W' => Ext W W') (by kernel_rfl) 75 rfl (by decide +kernel) (Ext.refl _).drew ?_
    repeat (apply tame_q rfl; (intro ρ W hC hr hD; (obtain ⟨hrc, hrg, hrf, hrs⟩ := hr); (simp [go_sem] at hD); go_simp; first | exact ⟨⟨hC, Ext.refl _⟩, rfl⟩ | exact ⟨⟨hC, RS.refl _⟩, rfl⟩ | exact rfl); simp only [List.nil_append, List.cons_append])
    apply tame_q rfl
    · intro ρ W hC hr hD
      obtain ⟨hrc, hrg, hrf, hrs⟩ := hr
      simp [go_sem] at hD
      go_simp
      refine (check_any c _ _ W (S.out.ext hC).t (S.out.ext hC).b1 (S.out.ext hC).b2 (by have := HLE.out; omega)).mono ?_
      rintro e w' ⟨rfl, hE⟩
      exact ⟨_, rfl, ⟨hC.trans hE, hE⟩, rfl⟩
    simp only [List.nil_append, List.cons_append]
    repeat (apply tame_q rfl; (intro ρ W hC hr hD; (obtain ⟨hrc, hrg, hrf, hrs⟩ := hr); (simp [go_sem] at hD); go_simp; first | exact ⟨⟨hC, Ext.refl _⟩, rfl⟩ | exact ⟨⟨hC, RS.refl _⟩, rfl⟩ | exact rfl); simp only [List.nil_append, List.cons_append])
    apply tame_q rfl
    · intro ρ W hC hr hD
      obtain ⟨hrc, hrg, hrf, hrs⟩ := hr
      simp [go_sem] at hD
      go_simp
      refine (refCheck_any c _ _ W (S.out.ext hC).a1 (S.out.ext hC).a2).mono ?_
      rintro e w' ⟨rfl, hE⟩
      exact ⟨_, rfl, ⟨hC.trans hE, hE⟩, rfl⟩
    simp only [List.nil_append, List.cons_append]
    repeat (apply tame_q rfl; (intro ρ W hC hr hD; (obtain ⟨hrc, hrg, hrf, hrs⟩ := hr); (simp [go_sem] at hD); go_simp; first | exact ⟨⟨hC, Ext.refl _⟩, rfl⟩ | exact ⟨⟨hC, RS.refl _⟩, rfl⟩ | exact rfl); simp only [List.nil_append, List.cons_append])
    apply tame_q rfl
    · intro ρ W hC hr hD
      obtain ⟨hrc, hrg, hrf, hrs⟩ := hr
      simp [go_sem] at hD
      go_simp
      refine (sameInts_any (owedL c) _ _ W (L1.out.ext hC) (L2.out.ext hC)).mono ?_
      rintro e w' ⟨rfl, hE⟩
      exact ⟨_, rfl, ⟨hC.trans hE, hE⟩, rfl⟩
    simp only [List.nil_append, List.cons_append]
    repeat (apply tame_q rfl; (intro ρ W hC hr hD; (obtain ⟨hrc, hrg, hrf, hrs⟩ := hr); (simp [go_sem] at hD); go_simp; first | exact ⟨⟨hC, Ext.refl _⟩, rfl⟩ | exact ⟨⟨hC, RS.refl _⟩, rfl⟩ | exact rfl); simp only [List.nil_append, List.cons_append])
    apply tame_q rfl
    · intro ρ W hC hr hD
      obtain ⟨hrc, hrg, hrf, hrs⟩ := hr
      simp [go_sem] at hD
      go_simp
      refine (sameInts_any l _ _ W (L3.out.ext hC) (L4.out.ext hC)).mono ?_
      rintro e w' ⟨rfl, hE⟩
      exact ⟨_, rfl, ⟨hC.trans hE, hE⟩, rfl⟩
    simp only [List.nil_append, List.cons_append]
    repeat (apply tame_q rfl; (intro ρ W hC hr hD; (obtain ⟨hrc, hrg, hrf, hrs⟩ := hr); (simp [go_sem] at hD); go_simp; first | exact ⟨⟨hC, Ext.refl _⟩, rfl⟩ | exact ⟨⟨hC, RS.refl _⟩, rfl⟩ | exact rfl); simp only [List.nil_append, List.cons_append])
    apply tame_q rfl
    · intro ρ W hC hr hD
      obtain ⟨hrc, hrg, hrf, hrs⟩ := hr
      simp [go_sem] at hD
      go_simp
      refine (same_any c _ _ _ _ W (S.out.ext hC).b1 (S.out.ext hC).b2 (S.out.ext hC).a1 (S.out.ext hC).a2).mono ?_
      rintro e w' ⟨rfl, hE⟩
      exact ⟨_, rfl, ⟨hC.trans hE, hE⟩, rfl⟩
    simp only [List.nil_append, List.cons_append]
    repeat (apply tame_q rfl; (intro ρ W hC hr hD; (obtain ⟨hrc, hrg, hrf, hrs⟩ := hr); (simp [go_sem] at hD); go_simp; first | exact ⟨⟨hC, Ext.refl _⟩, rfl⟩ | exact ⟨⟨hC, RS.refl _⟩, rfl⟩ | exact rfl); simp only [List.nil_append, List.cons_append])
    refine tame_end_put rfl rfl (fun ρ W hC hr hF => ?_)
    simp [go_sem] at hF
    simp only [putF, hF, List.set_cons_succ, List.set_cons_zero]
    clear hF hr
    have EW := Lib.hid (S.out.ext hC)
    clear hC m0 m1
    go_wp2
    go_ret
    exact ⟨rfl, EW.out.e⟩
end Go.Proofs.YtafdbgielmlihaaDoor
