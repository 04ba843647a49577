/- The reference's SameInts, Great, SameCotton, Same, TwinCotton, Twin. -/
import Derived.Test.YtkpengeaolcjhaaDoorPkMlTellsCardP
import Derived.Test.YtkpengeaolcjhaaDoorPkMlTellsCardD
namespace Go.Proofs.YtkpengeaolcjhaaDoor
open Go.RowKit Go.Shelf Go.Lib
set_option maxRecDepth 100000
set_option linter.unusedSimpArgs false

theorem sameIntsM_any (l : List Int) (v v' : Value) (w : World) (h : SlI w v l) (h' : SlI w v' l) :
    Calls Tryd.prog 17 #[v, v'] w fun e w' => e = .returned (.bool true) ∧ Ext w w' := by
  have HA := Lib.hid h
  have HB := Lib.hid h'
  obtain ⟨A, n, cp, rfl, hn, hlc, hcm⟩ := h.form
  obtain ⟨A2, n2, cp2, rfl, hn2, hlc2, hcm2⟩ := h'.form
  have hnn : n2 = n := by have := hn.out; have := hn2.out; omega
  subst hnn
  clear h h'
  go_enter Tryd.func17, Tryd.ntmps17
  go_wp2
  go_loopg [5] n2 (fun gg s wr => ∃ (k : Nat), k ≤ n2 ∧ n2 - k ≤ gg ∧ s = .int .i64 k ∧ Aside (Ext w wr))
  case atStart => exact ⟨0, by omega, by omega, rfl, Ext.refl _⟩
  case round =>
    obtain ⟨k, hk, hg, rfl, EW⟩ := hrel
    by_cases hlt : k < n2
    · have hjz : (k : Int) < (n2 : Int) := by omega
      obtain ⟨bb, off, x, rfl, hx, hb, hcell⟩ := HA.out.at_ hlt
      obtain ⟨bb', off', x', rfl, hx', hb', hcell'⟩ := HB.out.at_ hlt
      have hxx : x' = x := by rw [hx] at hx'; injection hx' with h; exact h.symm
      subst hxx
      have c0 := fun W (h : Ext wr W) => SlI.cell hcell (EW.out.trans h)
      have c1 := fun W (h : Ext wr W) => SlI.cell hcell' (EW.out.trans h)
      clear hx hx' hcell hcell'
      go_wp2
      refine wp_region_tame (fun W => Ext wr W) (fun W W' => Ext W W') (by kernel_rfl) 26 rfl (by decide +kernel) (Ext.refl _).drew ?_
      repeat (apply tame_q rfl; (intro ρ W hC hr hD; (obtain ⟨hrc, hrg, hrf, hrs⟩ := hr); (simp [go_sem] at hD); go_simp; first | exact ⟨⟨hC, Ext.refl _⟩, rfl⟩ | exact ⟨⟨hC, RS.refl _⟩, rfl⟩ | exact rfl); simp only [List.nil_append, List.cons_append])
      refine tame_end 26 rfl rfl (fun ρ W hC hr hF => ?_)
      obtain ⟨hrc, hrg, hrf, hrs⟩ := hr
      simp [go_sem] at hF
      apply frame_to
      · go_simp
        exact rfl
      clear hF hrs hrc hrg hrf
      have HC := Lib.hid hC; clear hC
      go_wp2
      go_roundg (n2 - (k + 1))
      case measure => omega
      case rel => exact ⟨k + 1, by omega, by omega, rfl, EW.out.trans HC.out⟩
    · go_wp2
      go_ret
      exact ⟨rfl, EW.out⟩

def greatM (l : List Rc) : Bool := decide (14 < (l.length : Int)) || l.any fun r => greatB r.c.b
set_option maxHeartbeats 1000000 in
theorem greatM_any (lots size : Int) (l : List Rc) (sv : Value) (w : World) (hs : MlC w sv l) :
    Calls Tryd.prog 7 #[valM lots size sv] w fun e w' => e = .returned (.bool (greatM l)) ∧ Ext w w' := by
  have HS := Lib.hid hs
  obtain ⟨A, n, c, rfl, hn, hlc, hcm⟩ := hs.1.form
  have HL := Lib.hid (show l.length = n from hn.out.symm)
  clear hs hn
  go_enter Tryd.func7, Tryd.ntmps7
  by_cases h14 : (14 : Int) < (n : Int)
  · have HQ := Lib.hid (show greatM l = true by unfold greatM; rw [HL.out, decide_eq_true h14]; rfl)
    go_wp2
    go_ret
    exact ⟨by rw [HQ.out]; rfl, Ext.al _ _⟩
  have HG := Lib.hid (show greatM l = l.any fun r => greatB r.c.b by unfold greatM; rw [HL.out, decide_eq_false h14]; rfl)
  go_wp2
  go_loopg [12] n (fun gg s12 wr => ∃ kk : Nat, kk ≤ n ∧ n - kk ≤ gg ∧ s12 = .int .i64 (kk : Int) ∧ Aside ((l.any fun r => greatB r.c.b) = (l.drop kk).any fun r => greatB r.c.b) ∧ Aside (Ext w wr))
  case atStart => exact ⟨0, by omega, by omega, by simp, by show _ = _; rw [List.drop_zero], Ext.al _ _⟩
  case round =>
    obtain ⟨kk, hkk, hgg, rfl, HA, HW⟩ := hrel
    by_cases hlt : kk < n
    · have hltz : (kk : Int) < (n : Int) := by omega
      obtain ⟨b, off, x, rfl, hx, hb, hcell⟩ := HS.out.1.at_ hlt
      obtain ⟨c0, c1, c2, c3, c4, c5, c6, c7⟩ := SlC.cells hcell HW.out
      have HX := Lib.hid (HS.out.2 x (List.mem_of_getElem? hx))
      have HD := Lib.hid (show ((l.drop kk).any fun r => greatB r.c.b) = (greatB x.c.b || (l.drop (kk + 1)).any fun r => greatB r.c.b) by rw [drop_at hx]; rfl)
      have HWE := Lib.hid (HW.out.trans (Ext.al wr (.cells #[.int .i64 x.c.b.id, .int .i64 x.c.b.layers, .int .i64 x.c.b.dry.lo, .int .i64 x.c.b.dry.hi, .slice x.da x.dn x.dc, .slice x.wa x.wn x.wc, .int .i64 x.c.len, .int .i64 x.c.str] 61)))
      clear hcell hx
      go_wp2_with fail
      refine (great_any x.c.b _ _ _ (HX.out.1.ext HWE.out) (HX.out.2.ext HWE.out)).mono ?_
      rintro e w2 ⟨rfl, hE⟩
      have HE2 := Lib.hid (HWE.out.trans hE)
      clear hE c0 c1 c2 c3 c4 c5 c6 c7
      cases hq : greatB x.c.b
      · have HQ := Lib.hid (show (l.any fun r => greatB r.c.b) = (l.drop (kk + 1)).any fun r => greatB r.c.b by rw [HA.out, HD.out, hq]; rfl)
        clear hq
        go_wp2
        go_roundg (n - (kk + 1))
        case measure => omega
        case rel => exact ⟨kk + 1, by omega, by omega, by simp, HQ.out, HE2.out⟩
      · have HQ := Lib.hid (show (l.any fun r => greatB r.c.b) = true by rw [HA.out, HD.out, hq]; rfl)
        clear hq
        go_wp2
        go_ret
        exact ⟨by rw [HG.out, HQ.out]; rfl, HE2.out⟩
    · have HQ := Lib.hid (show (l.any fun r => greatB r.c.b) = false by rw [HA.out, List.drop_of_length_le (by have := HL.out; omega)]; rfl)
      go_wp2
      go_ret
      exact ⟨by rw [HG.out, HQ.out]; rfl, HW.out⟩

theorem sameCotton_any (r r' : Rc) (w : World) (hc : r.c = r'.c) (hd : SlD w (.slice r.da r.dn r.dc) r.c.b.draws) (hw : SlW w (.slice r.wa r.wn r.wc) r.c.b.weighs) (hd' : SlD w (.slice r'.da r'.dn r'.dc) r'.c.b.draws) (hw' : SlW w (.slice r'.wa r'.wn r'.wc) r'.c.b.weighs) :
    Calls Tryd.prog 39 #[valC r, valC r'] w fun e w' => e = .returned (.bool true) ∧ Ext w w' := by
  have H1 := Lib.hid hd; have H2 := Lib.hid hw; have H3 := Lib.hid hd'; have H4 := Lib.hid hw'
  rw [← hc] at H3 H4
  obtain ⟨c', a1, a2, a3, a4, a5, a6⟩ := r'
  obtain rfl : r.c = c' := hc
  clear hd hw hd' hw'
  dsimp only at H3 H4 ⊢
  have HE := Lib.hid ((Ext.al w (.cells #[.int .i64 r.c.b.id, .int .i64 r.c.b.layers, .int .i64 r.c.b.dry.lo, .int .i64 r.c.b.dry.hi, .slice r.da r.dn r.dc, .slice r.wa r.wn r.wc, .int .i64 r.c.len, .int .i64 r.c.str] 61)).alloc (.cells #[.int .i64 r.c.b.id, .int .i64 r.c.b.layers, .int .i64 r.c.b.dry.lo, .int .i64 r.c.b.dry.hi, .slice a1 a2 a3, .slice a4 a5 a6, .int .i64 r.c.len, .int .i64 r.c.str] 61))
  go_enter Tryd.func39, Tryd.ntmps39
  go_wp2_with fail
  refine (same_any r.c.b _ _ _ _ _ (H1.out.ext HE.out) (H2.out.ext HE.out) (H3.out.ext HE.out) (H4.out.ext HE.out)).mono ?_
  rintro e w1 ⟨rfl, hE⟩
  have HE1 := Lib.hid (HE.out.trans hE)
  clear hE
  go_wp2
  go_ret
  exact ⟨rfl, HE1.out⟩
set_option maxHeartbeats 2000000 in
theorem sameM_any (lots size : Int) (l l' : List Rc) (sv sv' : Value) (w : World) (hc : l.map (·.c) = l'.map (·.c)) (hs : MlC w sv l) (hs' : MlC w sv' l') :
    Calls Tryd.prog 18 #[valM lots size sv, valM lots size sv'] w fun e w' => e = .returned (.bool true) ∧ Ext w w' := by
  have HS := Lib.hid hs; have HS' := Lib.hid hs'; have HC := Lib.hid hc
  obtain ⟨A, n, c, rfl, hn, hlc, hcm⟩ := hs.1.form
  obtain ⟨A', n', c', rfl, hn', hlc', hcm'⟩ := hs'.1.form
  obtain rfl : n' = n := by have h1 := hn.out; have h2 := hn'.out; have h3 := congrArg List.length hc; rw [List.length_map, List.length_map] at h3; omega
  clear hs hs' hc hn hn'
  go_enter Tryd.func18, Tryd.ntmps18
  go_wp2
  obtain ⟨w5, hw5⟩ : ∃ w5, w5 = (w.alloc (.cells #[.int .i64 lots, .int .i64 size, .slice A n' c] 24)).alloc (.cells #[.int .i64 lots, .int .i64 size, .slice A' n' c'] 24) := ⟨_, rfl⟩
  rw [← hw5]
  have B0 := Lib.hid (show Blk w5 w.heap.size 24 #[.int .i64 lots, .int .i64 size, .slice A n' c] from hw5 ▸ (Blk.new _ _ _).alloc _)
  have B1 := Lib.hid (show Blk w5 (w.heap.size + 1) 24 #[.int .i64 lots, .int .i64 size, .slice A' n' c'] from hw5 ▸ (Blk.at_ (by simp)))
  have E5 := Lib.hid (show Ext w w5 from hw5 ▸ (Ext.al _ _).alloc _)
  clear hw5
  go_loopg [5] n' (fun gg s wr => ∃ (k : Nat), k ≤ n' ∧ n' - k ≤ gg ∧ s = .int .i64 k ∧ Aside (Ext w5 wr))
  case atStart => exact ⟨0, by omega, by omega, rfl, Ext.refl _⟩
  case round =>
    obtain ⟨k, hk, hg, rfl, EW⟩ := hrel
    obtain ⟨b0, b1, b2, bf, bl⟩ := (B0.out.ext EW.out).c3
    by_cases hlt : k < n'
    · have hjz : (k : Int) < (n' : Int) := by omega
      obtain ⟨b, off, x, rfl, hx, hb, hcell⟩ := HS.out.1.at_ hlt
      obtain ⟨b', off', x', rfl, hx', hb', hcell'⟩ := HS'.out.1.at_ hlt
      have HXX := Lib.hid (show x.c = x'.c by
        have h1 : (l.map (·.c))[k]? = some x.c := by rw [List.getElem?_map, hx]; rfl
        rw [HC.out, List.getElem?_map, hx'] at h1
        injection h1 with h1; exact h1.symm)
      have HX := Lib.hid (HS.out.2 x (List.mem_of_getElem? hx))
      have HX' := Lib.hid (HS'.out.2 x' (List.mem_of_getElem? hx'))
      have EWW := Lib.hid (E5.out.trans EW.out)
      have v0 := fun W (h : Ext wr W) => ((B0.out.ext EW.out).ext h).c3.2.2.1
      have v1 := fun W (h : Ext wr W) => ((B1.out.ext EW.out).ext h).c3.2.2.1
      have p0 := fun W (h : Ext wr W) => (SlC.cells hcell (EWW.out.trans h)).1
      have p1 := fun W (h : Ext wr W) => (SlC.cells hcell (EWW.out.trans h)).2.1
      have p2 := fun W (h : Ext wr W) => (SlC.cells hcell (EWW.out.trans h)).2.2.1
      have p3 := fun W (h : Ext wr W) => (SlC.cells hcell (EWW.out.trans h)).2.2.2.1
      have p4 := fun W (h : Ext wr W) => (SlC.cells hcell (EWW.out.trans h)).2.2.2.2.1
      have p5 := fun W (h : Ext wr W) => (SlC.cells hcell (EWW.out.trans h)).2.2.2.2.2.1
      have p6 := fun W (h : Ext wr W) => (SlC.cells hcell (EWW.out.trans h)).2.2.2.2.2.2.1
      have p7 := fun W (h : Ext wr W) => (SlC.cells hcell (EWW.out.trans h)).2.2.2.2.2.2.2
      have q0 := fun W (h : Ext wr W) => (SlC.cells hcell' (EWW.out.trans h)).1
      have q1 := fun W (h : Ext wr W) => (SlC.cells hcell' (EWW.out.trans h)).2.1
      have q2 := fun W (h : Ext wr W) => (SlC.cells hcell' (EWW.out.trans h)).2.2.1
      have q3 := fun W (h : Ext wr W) => (SlC.cells hcell' (EWW.out.trans h)).2.2.2.1
      have q4 := fun W (h : Ext wr W) => (SlC.cells hcell' (EWW.out.trans h)).2.2.2.2.1
      have q5 := fun W (h : Ext wr W) => (SlC.cells hcell' (EWW.out.trans h)).2.2.2.2.2.1
      have q6 := fun W (h : Ext wr W) => (SlC.cells hcell' (EWW.out.trans h)).2.2.2.2.2.2.1
      have q7 := fun W (h : Ext wr W) => (SlC.cells hcell' (EWW.out.trans h)).2.2.2.2.2.2.2
      clear hx hx'
      go_wp2
      refine wp_region_tame (fun W => Ext wr W) (fun W W' => Ext W W') (by kernel_rfl) 46 rfl (by decide +kernel) (Ext.refl _).drew ?_
      repeat (apply tame_q rfl; (intro ρ W hC hr hD; (obtain ⟨hrc, hrg, hrf, hrs⟩ := hr); (simp [go_sem] at hD); go_simp; first | exact ⟨⟨hC, Ext.refl _⟩, rfl⟩ | exact ⟨⟨hC, RS.refl _⟩, rfl⟩ | exact rfl); simp only [List.nil_append, List.cons_append])
      apply tame_q rfl
      · intro ρ W hC hr hD
        obtain ⟨hrc, hrg, hrf, hrs⟩ := hr
        simp [go_sem] at hD
        go_simp
        refine (sameCotton_any x x' W HXX.out (HX.out.1.ext (EWW.out.trans hC)) (HX.out.2.ext (EWW.out.trans hC)) (HX'.out.1.ext (EWW.out.trans hC)) (HX'.out.2.ext (EWW.out.trans hC))).mono ?_
        rintro e w' ⟨rfl, hE⟩
        exact ⟨_, rfl, ⟨hC.trans hE, hE⟩, rfl⟩
      simp only [List.nil_append, List.cons_append]
      repeat (apply tame_q rfl; (intro ρ W hC hr hD; (obtain ⟨hrc, hrg, hrf, hrs⟩ := hr); (simp [go_sem] at hD); go_simp; first | exact ⟨⟨hC, Ext.refl _⟩, rfl⟩ | exact ⟨⟨hC, RS.refl _⟩, rfl⟩ | exact rfl); simp only [List.nil_append, List.cons_append])
      refine tame_end 46 rfl rfl (fun ρ W hC hr hF => ?_)
      obtain ⟨hrc, hrg, hrf, hrs⟩ := hr
      simp [go_sem] at hF
      apply frame_to
      · go_simp
        exact rfl
      clear hF hrs hrc hrg hrf
      have HCC := Lib.hid hC; clear hC v0 v1 p0 p1 p2 p3 p4 p5 p6 p7 q0 q1 q2 q3 q4 q5 q6 q7 hcell hcell'
      go_wp2
      go_roundg (n' - (k + 1))
      case measure => omega
      case rel => exact ⟨k + 1, by omega, by omega, rfl, EW.out.trans HCC.out⟩
    · go_wp2
      go_ret
      exact ⟨rfl, E5.out.trans EW.out⟩
end Go.Proofs.YtkpengeaolcjhaaDoor
