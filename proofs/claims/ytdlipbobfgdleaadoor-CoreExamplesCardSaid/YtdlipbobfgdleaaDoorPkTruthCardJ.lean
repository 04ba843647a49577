/- middlingref03.Same: of bales with the same data it is true. -/
import Derived.Test.YtdlipbobfgdleaaDoorPkTruthCardC
namespace Go.Proofs.YtdlipbobfgdleaaDoor
open Go.RowKit Go.Shelf
set_option maxRecDepth 100000

set_option maxHeartbeats 1000000 in
theorem same_any (b : Bale) (dv wv dv' wv' : Value) (w : World) (hd : SlD w dv b.draws) (hw : SlW w wv b.weighs) (hd' : SlD w dv' b.draws) (hw' : SlW w wv' b.weighs) :
    Calls Tryd.prog 26 #[valB b dv wv, valB b dv' wv'] w fun e w' => e = .returned (.bool true) ∧ Ext w w' := by
  have HD := Lib.hid hd
  have HW := Lib.hid hw
  have HD' := Lib.hid hd'
  have HW' := Lib.hid hw'
  obtain ⟨A, n, cp, rfl, hn, hlc, hcm⟩ := hd.form
  obtain ⟨A2, n2, cp2, rfl, hn2, hlc2, hcm2⟩ := hw.form
  obtain ⟨A3, n3, cp3, rfl, hn3, hlc3, hcm3⟩ := hd'.form
  obtain ⟨A4, n4, cp4, rfl, hn4, hlc4, hcm4⟩ := hw'.form
  have e1 : n3 = n := by have := hn.out; have := hn3.out; omega
  have e2 : n4 = n2 := by have := hn2.out; have := hn4.out; omega
  subst e1 e2
  have nq := neq23
  clear hd hw hd' hw'
  go_enter Tryd.func26, Tryd.ntmps26
  go_wp2
  go_loopg [5] n3 (fun gg s wr => ∃ (k : Nat), k ≤ n3 ∧ n3 - k ≤ gg ∧ s = .int .i64 k ∧ Aside (Blk wr w.heap.size 27 #[.int .i64 b.id, .int .i64 b.layers, .int .i64 b.dry.lo, .int .i64 b.dry.hi, .slice A n3 cp, .slice A2 n4 cp2]) ∧ Aside (Blk wr (w.heap.size + 1) 27 #[.int .i64 b.id, .int .i64 b.layers, .int .i64 b.dry.lo, .int .i64 b.dry.hi, .slice A3 n3 cp3, .slice A4 n4 cp4]) ∧ Aside (Ext w wr))
  case atStart => exact ⟨0, by omega, by omega, rfl, (Blk.at_ rfl).alloc _, Blk.at_ (by simp), (Ext.al _ _).alloc _⟩
  case round =>
    obtain ⟨k, hk, hg, rfl, B1, B2, EW⟩ := hrel
    have q4 : wr.cell? ⟨w.heap.size, 4, none⟩ = some (.slice A n3 cp) := B1.out.cell 4
    have q5 : wr.cell? ⟨w.heap.size, 5, none⟩ = some (.slice A2 n4 cp2) := B1.out.cell 5
    have r4 : wr.cell? ⟨w.heap.size + 1, 4, none⟩ = some (.slice A3 n3 cp3) := B2.out.cell 4
    have r5 : wr.cell? ⟨w.heap.size + 1, 5, none⟩ = some (.slice A4 n4 cp4) := B2.out.cell 5
    by_cases hlt : k < n3
    · have hjz : (k : Int) < (n3 : Int) := by omega
      obtain ⟨bb, off, x, rfl, hx, hb, hcell⟩ := HD.out.at_ hlt
      obtain ⟨bb', off', x', rfl, hx', hb', hcell'⟩ := HD'.out.at_ hlt
      have hxx : x' = x := by rw [hx] at hx'; injection hx' with h; exact h.symm
      subst hxx
      have f4 := fun W (h : Ext wr W) => (show W.cell? ⟨w.heap.size, 4, none⟩ = some (.slice (some ⟨bb, off, none⟩) n3 cp) from (B1.out.ext h).cell 4)
      have g4 := fun W (h : Ext wr W) => (show W.cell? ⟨w.heap.size + 1, 4, none⟩ = some (.slice (some ⟨bb', off', none⟩) n3 cp3) from (B2.out.ext h).cell 4)
      have c0 := fun W (h : Ext wr W) => (SlD.cells hcell (EW.out.trans h)).1
      have c1 := fun W (h : Ext wr W) => (SlD.cells hcell (EW.out.trans h)).2.1
      have c2 := fun W (h : Ext wr W) => (SlD.cells hcell (EW.out.trans h)).2.2.1
      have c3 := fun W (h : Ext wr W) => (SlD.cells hcell (EW.out.trans h)).2.2.2
      have d0 := fun W (h : Ext wr W) => (SlD.cells hcell' (EW.out.trans h)).1
      have d1 := fun W (h : Ext wr W) => (SlD.cells hcell' (EW.out.trans h)).2.1
      have d2 := fun W (h : Ext wr W) => (SlD.cells hcell' (EW.out.trans h)).2.2.1
      have d3 := fun W (h : Ext wr W) => (SlD.cells hcell' (EW.out.trans h)).2.2.2
      have nd := neq63
      clear hx hx' hcell hcell' q5 r5
      go_wp2
      refine wp_region_tame (fun W => Ext wr W) (fun W W' => Ext W W') (by kernel_rfl) 80 rfl (by decide +kernel) (Ext.refl _).drew ?_
      repeat (apply tame_q rfl; (intro ρ W hC hr hD; (obtain ⟨hrc, hrg, hrf, hrs⟩ := hr); (simp [go_sem] at hD); go_simp; first | exact ⟨⟨hC, Ext.refl _⟩, rfl⟩ | exact ⟨⟨hC, RS.refl _⟩, rfl⟩ | exact rfl); simp only [List.nil_append, List.cons_append])
      refine tame_end 80 rfl rfl (fun ρ W hC hr hF => ?_)
      obtain ⟨hrc, hrg, hrf, hrs⟩ := hr
      simp [go_sem] at hF
      apply frame_to
      · go_simp
        exact rfl
      clear hF hrs hrc hrg hrf
      have HC := Lib.hid hC; clear hC f4 g4 c0 c1 c2 c3 d0 d1 d2 d3
      go_wp2
      go_roundg (n3 - (k + 1))
      case measure => omega
      case rel => exact ⟨k + 1, by omega, by omega, rfl, B1.out.ext HC.out, B2.out.ext HC.out, EW.out.trans HC.out⟩
    · clear r4
      have hwr : Ext w wr := EW.out
      have B1o := Lib.hid B1.out
      have B2o := Lib.hid B2.out
      have EWo := Lib.hid EW.out
      clear q5 r5 B1 B2 EW hwr
      go_wp2
      go_loopg [6] n4 (fun gg s wr => ∃ (k : Nat), k ≤ n4 ∧ n4 - k ≤ gg ∧ s = .int .i64 k ∧ Aside (Blk wr w.heap.size 27 #[.int .i64 b.id, .int .i64 b.layers, .int .i64 b.dry.lo, .int .i64 b.dry.hi, .slice A n3 cp, .slice A2 n4 cp2]) ∧ Aside (Blk wr (w.heap.size + 1) 27 #[.int .i64 b.id, .int .i64 b.layers, .int .i64 b.dry.lo, .int .i64 b.dry.hi, .slice A3 n3 cp3, .slice A4 n4 cp4]) ∧ Aside (Ext w wr))
      case atStart => exact ⟨0, by omega, by omega, rfl, B1o.out, B2o.out, EWo.out⟩
      case round =>
        clear B1o B2o EWo
        obtain ⟨k, hk, hg, rfl, B1, B2, EW⟩ := hrel
        have q5 : wr.cell? ⟨w.heap.size, 5, none⟩ = some (.slice A2 n4 cp2) := B1.out.cell 5
        have r5 : wr.cell? ⟨w.heap.size + 1, 5, none⟩ = some (.slice A4 n4 cp4) := B2.out.cell 5
        by_cases hlt : k < n4
        · have hjz : (k : Int) < (n4 : Int) := by omega
          obtain ⟨bb, off, x, rfl, hx, hb, hcell⟩ := HW.out.at_ hlt
          obtain ⟨bb', off', x', rfl, hx', hb', hcell'⟩ := HW'.out.at_ hlt
          have hxx : x' = x := by rw [hx] at hx'; injection hx' with h; exact h.symm
          subst hxx
          have f5 := fun W (h : Ext wr W) => (show W.cell? ⟨w.heap.size, 5, none⟩ = some (.slice (some ⟨bb, off, none⟩) n4 cp2) from (B1.out.ext h).cell 5)
          have g5 := fun W (h : Ext wr W) => (show W.cell? ⟨w.heap.size + 1, 5, none⟩ = some (.slice (some ⟨bb', off', none⟩) n4 cp4) from (B2.out.ext h).cell 5)
          have c0 := fun W (h : Ext wr W) => (SlW.cells hcell (EW.out.trans h)).1
          have c1 := fun W (h : Ext wr W) => (SlW.cells hcell (EW.out.trans h)).2.1
          have c2 := fun W (h : Ext wr W) => (SlW.cells hcell (EW.out.trans h)).2.2.1
          have c3 := fun W (h : Ext wr W) => (SlW.cells hcell (EW.out.trans h)).2.2.2
          have d0 := fun W (h : Ext wr W) => (SlW.cells hcell' (EW.out.trans h)).1
          have d1 := fun W (h : Ext wr W) => (SlW.cells hcell' (EW.out.trans h)).2.1
          have d2 := fun W (h : Ext wr W) => (SlW.cells hcell' (EW.out.trans h)).2.2.1
          have d3 := fun W (h : Ext wr W) => (SlW.cells hcell' (EW.out.trans h)).2.2.2
          have nd := neq65
          clear hx hx' hcell hcell'
          go_wp2
          refine wp_region_tame (fun W => Ext wr W) (fun W W' => Ext W W') (by kernel_rfl) 80 rfl (by decide +kernel) (Ext.refl _).drew ?_
          repeat (apply tame_q rfl; (intro ρ W hC hr hD; (obtain ⟨hrc, hrg, hrf, hrs⟩ := hr); (simp [go_sem] at hD); go_simp; first | exact ⟨⟨hC, Ext.refl _⟩, rfl⟩ | exact ⟨⟨hC, RS.refl _⟩, rfl⟩ | exact rfl); simp only [List.nil_append, List.cons_append])
          refine tame_end 80 rfl rfl (fun ρ W hC hr hF => ?_)
          obtain ⟨hrc, hrg, hrf, hrs⟩ := hr
          simp [go_sem] at hF
          apply frame_to
          · go_simp
            exact rfl
          clear hF hrs hrc hrg hrf
          have HC := Lib.hid hC; clear hC f5 g5 c0 c1 c2 c3 d0 d1 d2 d3
          go_wp2
          go_roundg (n4 - (k + 1))
          case measure => omega
          case rel => exact ⟨k + 1, by omega, by omega, rfl, B1.out.ext HC.out, B2.out.ext HC.out, EW.out.trans HC.out⟩
        · go_wp2
          go_ret
          exact ⟨rfl, EW.out⟩
end Go.Proofs.YtdlipbobfgdleaaDoor
