/- core.damp. -/
import Derived.Test.YtcoiahjehlplfaaDoorCoreW
namespace Go.Proofs.YtcoiahjehlplfaaDoor
open Go.RowKit Go.Shelf
set_option maxRecDepth 100000
set_option linter.unusedSimpArgs false

theorem ret_set2v {P : Program} {fn : Func} {R : Ending → World → Prop} {ex : Exit} {a : Act} {w1 : World} {g : Nat} {t : TypeId} {x0 x1 y0 y1 : Value} (hB : Blk w1 g t #[x0, x1])
    (h : ∀ W, (W.cell? ⟨g, 0, none⟩ = some y0 ∧ W.cell? ⟨g, 1, none⟩ = some y1) → w1.grownBy W (some g) → bodyPost P fn R ex a W) :
    bodyPost P fn R ex a ((w1.setCell ⟨g, 0, none⟩ y0).setCell ⟨g, 1, none⟩ y1) := ret_set2 hB h

set_option maxHeartbeats 2000000 in
theorem damp_any (d : Int) (x : Weigh) (w : World) (hd0 : 0 ≤ d) (hd1 : d ≤ 1000000) (hx0 : 0 ≤ x.damp.lo) (hx1 : x.damp.hi ≤ 1000) (hx2 : x.damp.lo ≤ x.damp.hi) (hc : could d x = true) :
    Calls Tryd.prog 62 #[.int .i64 d, valW x] w fun e w' => e = .returned (valS ⟨dLo d x, dHi d x⟩) ∧ Ext w w' := by
  have HC := Lib.hid (show weight d x.damp.lo ≤ x.pounds ∧ x.pounds ≤ weight d x.damp.hi by unfold could inB at hc; simpa using hc)
  clear hc
  go_enter Tryd.func62, Tryd.ntmps62
  dsimp only [valW]
  go_wp2
  go_loopg [] (x.damp.hi - x.damp.lo).toNat (fun gg wr => ∃ lo : Int, x.damp.lo ≤ lo ∧ lo ≤ x.damp.hi ∧ (x.damp.hi - lo).toNat ≤ gg ∧ Aside (∀ r, x.damp.lo ≤ r → r < lo → weight d r < x.pounds) ∧ Aside (Ext w wr) ∧
    Aside (Blk wr w.heap.size 65 #[.int .i64 x.number, .int .i64 x.pounds, .int .i64 x.damp.lo, .int .i64 x.damp.hi]) ∧ Aside (Blk wr (w.heap.size + 1) 23 #[.int .i64 0, .int .i64 0]) ∧ Aside (Blk wr (w.heap.size + 2) 23 #[.int .i64 lo, .int .i64 x.damp.hi]))
  case atStart => exact ⟨x.damp.lo, by omega, by omega, by omega, fun r h1 h2 => absurd h2 (by omega), ((Ext.al _ _).trans (Ext.al _ _)).trans (Ext.al _ _), ((Blk.at_ rfl).alloc _).alloc _, (Blk.at_ (by simp)).alloc _, Blk.at_ (by simp)⟩
  case round =>
    obtain ⟨lo, h1, h2, hgg, FA, EX, BX, BR, BL⟩ := hrel
    have m0 := fun W (h : Ext wr W) => (show W.cell? ⟨w.heap.size + 2, 0, none⟩ = some (.int .i64 lo) from (BL.out.ext h).cell 0)
    have m1 := fun W (h : Ext wr W) => (show W.cell? ⟨w.heap.size, 1, none⟩ = some (.int .i64 x.pounds) from (BX.out.ext h).cell 1)
    go_wp2
    refine wp_region_tame (fun W => Ext wr W) (fun W W' => Ext W W') (by kernel_rfl) 31 rfl (by decide +kernel) (Ext.refl _).drew ?_
    repeat (apply tame_q rfl; (intro ρ W hC hr hD; (obtain ⟨hrc, hrg, hrf, hrs⟩ := hr); (simp [go_sem] at hD); go_simp; first | exact ⟨⟨hC, Ext.refl _⟩, rfl⟩ | exact ⟨⟨hC, RS.refl _⟩, rfl⟩ | exact rfl); simp only [List.nil_append, List.cons_append])
    apply tame_q rfl
    · intro ρ W hC hr hD
      obtain ⟨hrc, hrg, hrf, hrs⟩ := hr
      simp [go_sem] at hD
      go_simp
      refine (f66_any d lo _ (by omega) (by omega) (by omega) (by omega)).mono ?_
      rintro e w' ⟨rfl, rfl⟩
      exact ⟨_, rfl, ⟨hC, Ext.refl _⟩, rfl⟩
    simp only [List.nil_append, List.cons_append]
    repeat (apply tame_q rfl; (intro ρ W hC hr hD; (obtain ⟨hrc, hrg, hrf, hrs⟩ := hr); (simp [go_sem] at hD); go_simp; first | exact ⟨⟨hC, Ext.refl _⟩, rfl⟩ | exact ⟨⟨hC, RS.refl _⟩, rfl⟩ | exact rfl); simp only [List.nil_append, List.cons_append])
    refine tame_end 31 rfl rfl (fun ρ W hC hr hF => ?_)
    obtain ⟨hrc, hrg, hrf, hrs⟩ := hr
    simp [go_sem] at hF
    apply frame_to
    · go_simp
      exact rfl
    clear hF hrs hrc hrg hrf m0 m1
    have BXW := Lib.hid (BX.out.ext hC)
    have BRW := Lib.hid (BR.out.ext hC)
    have BLW := Lib.hid (BL.out.ext hC)
    have EXW := Lib.hid (EX.out.trans hC)
    have t0 := BLW.out.cell 0
    have t1 := BLW.out.cell 1
    have tf := BLW.out.frozen
    have tl := BLW.out.lt
    simp at t0 t1
    clear hC
    by_cases hlt : weight d lo < x.pounds
    · have hlh : lo < x.damp.hi := by
        rcases Int.lt_or_le lo x.damp.hi with h | h
        · exact h
        · have : lo = x.damp.hi := by omega
          rw [this] at hlt; have := HC.out; omega
      go_wp2
      go_roundg (x.damp.hi - (lo + 1)).toNat
      case measure => omega
      case rel =>
        refine ⟨lo + 1, by omega, by omega, by omega, fun r h3 h4 => ?_, EXW.out.setCell (by dsimp only; omega) _, BXW.out.far (by dsimp only; omega) _, BRW.out.far (by dsimp only; omega) _, BLW.out.set_ 0 _⟩
        by_cases hrl : r = lo
        · rw [hrl]; exact hlt
        · exact FA.out r h3 (by omega)
    · have HLO := Lib.hid (dLo_of h1 h2 (Int.not_lt.1 hlt) FA.out)
      go_wp2
      go_loopg [] (x.damp.hi - x.damp.lo).toNat (fun gg wq => ∃ hi : Int, x.damp.lo ≤ hi ∧ hi ≤ x.damp.hi ∧ (hi - x.damp.lo).toNat ≤ gg ∧ Aside (∀ r, hi < r → r ≤ x.damp.hi → x.pounds < weight d r) ∧ Aside (Ext w wq) ∧
        Aside (Blk wq w.heap.size 65 #[.int .i64 x.number, .int .i64 x.pounds, .int .i64 x.damp.lo, .int .i64 x.damp.hi]) ∧ Aside (Blk wq (w.heap.size + 1) 23 #[.int .i64 0, .int .i64 0]) ∧ Aside (Blk wq (w.heap.size + 2) 23 #[.int .i64 lo, .int .i64 hi]))
      case atStart => exact ⟨x.damp.hi, by omega, by omega, by omega, fun r h1 h2 => absurd h2 (by omega), EXW.out, BXW.out, BRW.out, BLW.out⟩
      case round =>
        clear t0 t1 tf tl
        obtain ⟨hi, g1, g2, hgg2, FB, EX2, BX2, BR2, BL2⟩ := hrel
        have m0 := fun W (h : Ext wr W) => (show W.cell? ⟨w.heap.size + 2, 1, none⟩ = some (.int .i64 hi) from (BL2.out.ext h).cell 1)
        have m1 := fun W (h : Ext wr W) => (show W.cell? ⟨w.heap.size, 1, none⟩ = some (.int .i64 x.pounds) from (BX2.out.ext h).cell 1)
        go_wp2
        refine wp_region_tame (fun W => Ext wr W) (fun W W' => Ext W W') (by kernel_rfl) 31 rfl (by decide +kernel) (Ext.refl _).drew ?_
        repeat (apply tame_q rfl; (intro ρ W hC hr hD; (obtain ⟨hrc, hrg, hrf, hrs⟩ := hr); (simp [go_sem] at hD); go_simp; first | exact ⟨⟨hC, Ext.refl _⟩, rfl⟩ | exact ⟨⟨hC, RS.refl _⟩, rfl⟩ | exact rfl); simp only [List.nil_append, List.cons_append])
        apply tame_q rfl
        · intro ρ W hC hr hD
          obtain ⟨hrc, hrg, hrf, hrs⟩ := hr
          simp [go_sem] at hD
          go_simp
          refine (f66_any d hi _ (by omega) (by omega) (by omega) (by omega)).mono ?_
          rintro e w' ⟨rfl, rfl⟩
          exact ⟨_, rfl, ⟨hC, Ext.refl _⟩, rfl⟩
        simp only [List.nil_append, List.cons_append]
        repeat (apply tame_q rfl; (intro ρ W hC hr hD; (obtain ⟨hrc, hrg, hrf, hrs⟩ := hr); (simp [go_sem] at hD); go_simp; first | exact ⟨⟨hC, Ext.refl _⟩, rfl⟩ | exact ⟨⟨hC, RS.refl _⟩, rfl⟩ | exact rfl); simp only [List.nil_append, List.cons_append])
        refine tame_end 31 rfl rfl (fun ρ W hC hr hF => ?_)
        obtain ⟨hrc, hrg, hrf, hrs⟩ := hr
        simp [go_sem] at hF
        apply frame_to
        · go_simp
          exact rfl
        clear hF hrs hrc hrg hrf m0 m1
        have BXW2 := Lib.hid (BX2.out.ext hC)
        have BRW2 := Lib.hid (BR2.out.ext hC)
        have BLW2 := Lib.hid (BL2.out.ext hC)
        have EXW2 := Lib.hid (EX2.out.trans hC)
        have t0 := BLW2.out.cell 0
        have t1 := BLW2.out.cell 1
        have tf := BLW2.out.frozen
        have tl := BLW2.out.lt
        simp at t0 t1
        clear hC
        by_cases hgt : x.pounds < weight d hi
        · have hlh : x.damp.lo < hi := by
            rcases Int.lt_or_le x.damp.lo hi with h | h
            · exact h
            · have : hi = x.damp.lo := by omega
              rw [this] at hgt; have := HC.out; omega
          go_wp2
          go_roundg (hi - 1 - x.damp.lo).toNat
          case measure => omega
          case rel =>
            refine ⟨hi - 1, by omega, by omega, by omega, fun r h3 h4 => ?_, EXW2.out.setCell (by dsimp only; omega) _, BXW2.out.far (by dsimp only; omega) _, BRW2.out.far (by dsimp only; omega) _, BLW2.out.set_ 1 _⟩
            by_cases hrl : r = hi
            · rw [hrl]; exact hgt
            · exact FB.out r (by omega) h4
        · have HHI := Lib.hid (dHi_of g1 g2 (Int.not_lt.1 hgt) FB.out)
          have r0 := BRW2.out.cell 0
          have r1 := BRW2.out.cell 1
          have rf := BRW2.out.frozen
          have rl := BRW2.out.lt
          simp at r0 r1
          go_wp2
          refine ret_set2 BRW2.out fun W ⟨b0, b1⟩ hW => ?_
          refine bodyPost_ret (v := valS ⟨lo, hi⟩) (by simp [results, Tryd.results62, go_sem, b0, b1]) rfl ?_
          exact ⟨by rw [HLO.out, HHI.out], ext_grown EXW2.out hW (by omega)⟩
end Go.Proofs.YtcoiahjehlplfaaDoor
