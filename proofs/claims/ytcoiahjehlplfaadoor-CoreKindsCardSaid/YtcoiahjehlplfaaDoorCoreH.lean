/- core.opened, core.grown: a press holds what is known of the layers and the dry weights that can be. -/
import Derived.Test.YtcoiahjehlplfaaDoorCoreG
import Derived.Test.YtcoiahjehlplfaaDoorTame
import Derived.WalkMore
import Derived.RegionTactic
namespace Go.Proofs.YtcoiahjehlplfaaDoor
open Go.RowKit Go.Shelf
set_option maxRecDepth 100000

abbrev valP (b : Bale) (dv wv sv lv : Value) : Value := .agg #[.int .i64 b.id, .int .i64 b.layers, .int .i64 b.dry.lo, .int .i64 b.dry.hi, dv, wv, sv, lv]

theorem f122_any (s : Span) (w : World) : Calls Tryd.prog 122 #[valS s] w fun e w' => e = .returned (.bool (!okS s)) ∧ Ext w w' := by
  go_enter Tryd.func122, Tryd.ntmps122
  go_wp2
  all_goals go_ret
  all_goals exact ⟨ret_bool (by unfold okS; first | (simp [*]; done) | (rw [Bool.eq_iff_iff]; simp)), Ext.al _ _⟩
theorem grown_any (b : Bale) (dv wv sv lv : Value) (l : List Span) (l2 : List Int) (w : World) (hd : SlD w dv b.draws) (hw : SlW w wv b.weighs) (hs : SlS w sv l) (hl : SlI w lv l2) :
    Calls Tryd.prog 87 #[valP b dv wv sv lv] w fun e w' => e = .returned (.bool (grown l)) ∧ Ext w w' := by
  obtain ⟨A, n, cp, rfl, hn, hlc, hcm⟩ := hd.form
  obtain ⟨A2, n2, cp2, rfl, hn2, hlc2, hcm2⟩ := hw.form
  obtain ⟨A3, n3, cp3, rfl, hn3, hlc3, hcm3⟩ := hs.form
  obtain ⟨A4, n4, cp4, rfl, hn4, hlc4, hcm4⟩ := hl.form
  have HS := Lib.hid hs; clear hd hw hs hl
  go_enter Tryd.func87, Tryd.ntmps87
  go_wp2_with fail
  refine (f121_any 122 _ (enters_of Tryd.func122 (by kernel_rfl) rfl) (fun s => !okS s) l _ _ (HS.out.ext (Ext.al _ _)) ?_).mono ?_
  · intro W x _ hW
    exact f122_any x W
  rintro e w1 ⟨rfl, hb1⟩
  generalize hr : (l.any fun s => !okS s) = r
  have HR := Lib.hid hr; clear hr
  go_wp2
  go_ret
  exact ⟨ret_bool (by rw [← HR.out]; unfold grown; rw [List.all_eq_not_any_not]), (Ext.al _ _).trans hb1⟩

def okB (b : Bale) : Bool := grown (spans b) && !(dries b).isEmpty
def OpenedPost (b : Bale) (dv wv : Value) (w : World) (e : Ending) (w' : World) : Prop :=
  ∃ sv lv, e = .returned (.tuple #[valP b dv wv sv lv, .bool (okB b)]) ∧ Own encS 23 2 w' w.heap.size sv (spans b) ∧ Own encI 3 1 w' w.heap.size lv (dries b) ∧ Ext w w'
theorem OpenedPost.of {b : Bale} {dv wv sv lv : Value} {w w' : World} {g : Bool} (hg : g = okB b) (h1 : Own encS 23 2 w' w.heap.size sv (spans b)) (h2 : Own encI 3 1 w' w.heap.size lv (dries b)) (hE : Ext w w') : OpenedPost b dv wv w (.returned (.tuple #[valP b dv wv sv lv, .bool g])) w' := by
  subst hg; exact ⟨sv, lv, rfl, h1, h2, hE⟩

set_option maxHeartbeats 2000000 in
theorem opened_any (b : Bale) (dv wv : Value) (w : World) (hd : SlD w dv b.draws) (hw : SlW w wv b.weighs) (hl1 : 1 ≤ b.layers) (hl5 : b.layers ≤ 5) (hb1 : 1 ≤ b.dry.lo) (hb2 : b.dry.lo ≤ b.dry.hi) (hb3 : b.dry.hi ≤ 600)
    (hbw : ∀ x ∈ b.weighs, 0 ≤ x.damp.lo ∧ x.damp.lo ≤ 1000000 ∧ 0 ≤ x.damp.hi ∧ x.damp.hi ≤ 1000000) :
    Calls Tryd.prog 48 #[valB b dv wv] w (OpenedPost b dv wv w) := by
  have HD := Lib.hid hd
  have HW := Lib.hid hw
  have HBW := Lib.hid hbw
  obtain ⟨A, n, cp, rfl, hn, hlc, hcm⟩ := hd.form
  obtain ⟨A2, n2, cp2, rfl, hn2, hlc2, hcm2⟩ := hw.form
  clear hd hw hbw
  go_enter Tryd.func48, Tryd.ntmps48
  go_wp2
  go_step3
  go_wp2
  go_loopg [16] 5 (fun gg s wr => ∃ (kk : Nat) (As : Option Addr) (cs : Nat), (kk : Int) ≤ b.layers ∧ (b.layers - kk).toNat ≤ gg ∧ s = .int .i64 kk ∧ Aside (Own encS 23 2 wr (w.heap.size + 3) (.slice As kk cs) (spansTo b kk)) ∧
    Aside (Blk wr (w.heap.size + 2) 82 #[.int .i64 b.id, .int .i64 b.layers, .int .i64 b.dry.lo, .int .i64 b.dry.hi, .slice A n cp, .slice A2 n2 cp2, .slice As kk cs, .slice none 0 0]) ∧
    Aside (Blk wr w.heap.size 27 #[.int .i64 b.id, .int .i64 b.layers, .int .i64 b.dry.lo, .int .i64 b.dry.hi, .slice A n cp, .slice A2 n2 cp2]) ∧
    Aside (Blk wr (w.heap.size + 1) 82 #[.int .i64 0, .int .i64 0, .int .i64 0, .int .i64 0, .slice none 0 0, .slice none 0 0, .slice none 0 0, .slice none 0 0]) ∧ Aside (Ext w wr))
  case atStart => exact ⟨0, none, 0, by omega, by omega, rfl, Own.nil _ _, Blk.at_ (by simp), ((Blk.at_ rfl).alloc _).alloc _, (Blk.at_ (by simp)).alloc _, ((Ext.al w _).alloc _).alloc _⟩
  case round =>
    obtain ⟨kk, As, cs, hkk, hg, rfl, OW, BP, BB, BR, EW⟩ := hrel
    have q1 : wr.cell? ⟨w.heap.size, 1, none⟩ = some (.int .i64 b.layers) := BB.out.cell 1
    have q2 : wr.cell? ⟨w.heap.size, 2, none⟩ = some (.int .i64 b.dry.lo) := BB.out.cell 2
    have q3 : wr.cell? ⟨w.heap.size, 3, none⟩ = some (.int .i64 b.dry.hi) := BB.out.cell 3
    have q4 : wr.cell? ⟨w.heap.size, 4, none⟩ = some (.slice A n cp) := BB.out.cell 4
    have q5 : wr.cell? ⟨w.heap.size, 5, none⟩ = some (.slice A2 n2 cp2) := BB.out.cell 5
    have p6 : wr.cell? ⟨w.heap.size + 2, 6, none⟩ = some (.slice As kk cs) := BP.out.cell 6
    have p6f : wr.frozen? ⟨w.heap.size + 2, 6, none⟩ = false := BP.out.frozen 6
    have hz2 : w.heap.size + 2 < wr.heap.size := BP.out.lt
    have hz1 : w.heap.size < wr.heap.size := by omega
    by_cases hlt : (kk : Int) < b.layers
    ·
      -- BLOCK A
      obtain ⟨wo, hwo⟩ : ∃ wo : World, wo = wr := ⟨_, rfl⟩
      subst hwo
      go_wp2
      go_loopg [23] n (fun gg s wr => ∃ (j : Nat) (lo hi : Int), j ≤ n ∧ n - j ≤ gg ∧ s = .int .i64 j ∧ Aside ((b.draws.take j).foldl (spanStep kk) ⟨1, 9⟩ = ⟨lo, hi⟩) ∧ Aside (Blk wr wo.heap.size 23 #[.int .i64 lo, .int .i64 hi]) ∧ Aside (Ext wo wr))
      case atStart => exact ⟨0, 1, 9, Nat.zero_le _, by omega, rfl, rfl, Blk.new _ _ _, Ext.al _ _⟩
      case round =>
        obtain ⟨j, lo, hi, hj, hgj, rfl, FO, BL, EX⟩ := hrel
        have s0 : wr.cell? ⟨wo.heap.size, 0, none⟩ = some (.int .i64 lo) := BL.out.cell 0
        have s1 : wr.cell? ⟨wo.heap.size, 1, none⟩ = some (.int .i64 hi) := BL.out.cell 1
        have f0 : wr.frozen? ⟨wo.heap.size, 0, none⟩ = false := BL.out.frozen 0
        have f1 : wr.frozen? ⟨wo.heap.size, 1, none⟩ = false := BL.out.frozen 1
        have hso : wo.heap.size < wr.heap.size := BL.out.lt
        by_cases hjn : j < n
        · have hjz : (j : Int) < (n : Int) := by omega
          obtain ⟨bb, off, x, rfl, hx, hb, hcell⟩ := HD.out.at_ hjn
          obtain ⟨c0, c1, c2, c3⟩ := SlD.cells hcell (EW.out.trans EX.out)
          have HX := Lib.hid hx; clear hx hcell hb
          have HFO := Lib.hid (foldl_snoc (spanStep kk) ⟨1, 9⟩ _ _ _ HX.out)
          have el := eql63l x.number x.layer x.grade.lo x.grade.hi kk
          by_cases he : x.layer = kk
          · have HE := Lib.hid he
            have he' : (x.layer == (kk : Int)) = true := by simpa using he
            clear he
            go_wp2
            go_region
            all_goals (try go_wp2)
            go_roundg (n - (j + 1))
            case measure => omega
            case rel => exact ⟨j + 1, max lo x.grade.lo, min hi x.grade.hi, by omega, by omega, rfl, by show _ = _; rw [HFO.out, FO.out, spanStep, if_pos HE.out], ((BL.out.set_ 0 _).set_ 1 _).alloc _, (((EX.out.setCell (Nat.le_refl _) _).setCell (Nat.le_refl _) _).alloc _).drew⟩
          · have HE := Lib.hid he
            have he' : (x.layer == (kk : Int)) = false := by simpa using he
            clear he
            go_wp2
            go_roundg (n - (j + 1))
            case measure => omega
            case rel => exact ⟨j + 1, lo, hi, by omega, by omega, rfl, by show _ = _; rw [HFO.out, FO.out, spanStep, if_neg HE.out], BL.out.alloc _, EX.out.alloc _⟩
        · have HSP := Lib.hid (show spanAt b.draws kk = ⟨lo, hi⟩ by unfold spanAt; rw [← FO.out, List.take_of_length_le (by have := hn.out; omega)])
          have HOL := Lib.hid (spansTo_len b kk)
          have p6' : wr.cell? ⟨w.heap.size + 2, 6, none⟩ = some (.slice As kk cs) := (EX.out.cells.1 _ _ hz2).trans p6
          have p6f' : wr.frozen? ⟨w.heap.size + 2, 6, none⟩ = false := (EX.out.cells.2 _ _ hz2).trans p6f
          have hz2' : w.heap.size + 2 < wr.heap.size := by have := EX.out.size; omega
          have OW' : Aside (Own encS 23 2 wr (w.heap.size + 3) (.slice As (spansTo b kk).length cs) (spansTo b kk)) := by rw [HOL.out]; exact OW.out.ext EX.out
          have HBP := Lib.hid (BP.out.ext EX.out)
          have HBB := Lib.hid (BB.out.ext EX.out)
          have HBR := Lib.hid (BR.out.ext EX.out)
          have HEW := Lib.hid (EW.out.trans EX.out)
          clear p6 p6f BP BB BR EW OW
          go_wp2_with (at_builtin; refine wpList_app encS 80 23 2 _ 16 Tryd.underlying80 info23x rfl (by decide) (by decide) (fun _ => rfl) encS_one rfl (.tmp 51) (.tmp 53) rfl (w.heap.size + 3) _ (spansTo b kk) (by rw [HOL.out]; rfl) (OW'.out.alloc _) wr.heap.size 1 ⟨lo, hi⟩ rfl (cells2 (by simp [go_sem]) (by simp [go_sem])) (by rw [HOL.out]; omega) (by simp; omega) ?_)
          intro g cap w' hown hg2 hbel _
          have HBP2 := Lib.hid ((HBP.out.alloc _).below hbel (by omega))
          have q6 := HBP2.out.cell 6
          have q6f := HBP2.out.frozen 6
          have HBB2 := Lib.hid ((HBB.out.alloc _).below hbel (by omega))
          have HBR2 := Lib.hid ((HBR.out.alloc _).below hbel (by omega))
          have HE2 := Lib.hid (show Ext w w' from Below.trans (HEW.out.alloc (.cells #[.int .i64 lo, .int .i64 hi] 23)) (hbel.mono (by omega)))
          have HO := Lib.hid hown; clear hown hbel p6' p6f'
          go_wp2
          go_roundg (b.layers - (kk + 1)).toNat
          case measure => omega
          case rel => exact ⟨kk + 1, some ⟨g, 0, none⟩, cap, by omega, by omega, rfl, by
              show Own _ _ _ _ _ _ _
              rw [spansTo_succ, HSP.out]; have := HO.out; rw [HOL.out] at this; exact this.far (by first | omega | (dsimp only; omega)) _, by
              show Blk _ _ _ _
              have := HBP2.out.set_ 6 (.slice (some ⟨g, 0, none⟩) ((spansTo b kk).length + 1) cap)
              rw [HOL.out] at this ⊢
              exact this, HBB2.out.far (by first | omega | (dsimp only; omega)) _, HBR2.out.far (by first | omega | (dsimp only; omega)) _, HE2.out.setCell (by first | omega | (dsimp only; omega)) _⟩
      -- END A
    · obtain ⟨w2, hw2⟩ : ∃ w2 : World, w2 = wr := ⟨_, rfl⟩
      subst hw2
      have HSP := Lib.hid (show spansTo b kk = spans b by unfold spans; rw [show b.layers.toNat = kk by omega])
      go_wp2
      go_step3
      go_wp2
      go_loopg [9] 600 (fun gg s wr => ∃ (k2 : Nat) (d : Int) (Al : Option Addr) (cl : Nat), s = .int .i64 d ∧ Aside (d = b.dry.lo + k2) ∧ b.dry.lo ≤ d ∧ d ≤ b.dry.hi + 1 ∧ (b.dry.hi + 1 - d).toNat ≤ gg ∧ Aside (Own encI 3 1 wr w2.heap.size (.slice Al (driesTo b k2).length cl) (driesTo b k2)) ∧
        Aside (Blk wr (w.heap.size + 2) 82 #[.int .i64 b.id, .int .i64 b.layers, .int .i64 b.dry.lo, .int .i64 b.dry.hi, .slice A n cp, .slice A2 n2 cp2, .slice As kk cs, .slice Al (driesTo b k2).length cl]) ∧ Aside (w2.grownBy wr (some (w.heap.size + 2))))
      case atStart => exact ⟨0, b.dry.lo, none, 0, rfl, by show _ = _; simp, by omega, by omega, by omega, Own.nil _ _, BP.out, World.grownBy.refl _ _⟩
      case round =>
        obtain ⟨k2, d, Al, cl, rfl, DK, hd1, hd2, hg, OL, BP2, GW⟩ := hrel
        have BB2 := Lib.hid (BB.out.grown GW.out (by simp))
        have BR2 := Lib.hid (BR.out.grown GW.out (by simp))
        have q3 : wr.cell? ⟨w.heap.size, 3, none⟩ = some (.int .i64 b.dry.hi) := BB2.out.cell 3
        have q5 : wr.cell? ⟨w.heap.size, 5, none⟩ = some (.slice A2 n2 cp2) := BB2.out.cell 5
        have hz2 : w.heap.size + 2 < wr.heap.size := BP2.out.lt
        have hz1 : w.heap.size < wr.heap.size := by omega
        have EW2 := Lib.hid (show Ext w wr from ⟨GW.out.os.trans EW.out.os, GW.out.tape.trans EW.out.tape, GW.out.output.trans EW.out.output, Nat.le_trans EW.out.size GW.out.size, fun k hk => (GW.out.block k (Nat.lt_of_lt_of_le hk EW.out.size) (by simp; omega)).trans (EW.out.block k hk)⟩)
        by_cases hlt : d ≤ b.dry.hi
        ·
          -- BLOCK B
          obtain ⟨w3, hw3⟩ : ∃ w3 : World, w3 = wr := ⟨_, rfl⟩
          subst hw3
          go_wp2
          go_loopg [70] n2 (fun gg s wr => ∃ (j : Nat), j ≤ n2 ∧ n2 - j ≤ gg ∧ s = .int .i64 j ∧ Aside ((b.weighs.take j).all (could d) = true) ∧ Aside (Ext w3 wr))
          case atStart => exact ⟨0, Nat.zero_le _, by omega, rfl, rfl, Ext.refl _⟩
          case round =>
            obtain ⟨j, hj, hgj, rfl, IS, EX⟩ := hrel
            by_cases hjn : j < n2
            · have hjz : (j : Int) < (n2 : Int) := by omega
              obtain ⟨bb, off, x, rfl, hx, hb, hcell⟩ := HW.out.at_ hjn
              obtain ⟨c0, c1, c2, c3⟩ := SlW.cells hcell (EW2.out.trans EX.out)
              have HX := Lib.hid hx
              have HXB := Lib.hid (HBW.out x (List.mem_of_getElem? hx)); clear hx hcell hb
              have HAS := Lib.hid (all_snoc (could d) _ _ _ HX.out)
              have m1 := fun W (h : Ext (wr.alloc (.cells #[.int .i64 x.number, .int .i64 x.pounds, .int .i64 x.damp.lo, .int .i64 x.damp.hi] 65)) W) => (h.cells.1 wr.heap.size 1 (by simp)).trans (show _ = some (.int .i64 x.pounds) by simp [go_sem])
              have m2 := fun W (h : Ext (wr.alloc (.cells #[.int .i64 x.number, .int .i64 x.pounds, .int .i64 x.damp.lo, .int .i64 x.damp.hi] 65)) W) => (h.cells.1 wr.heap.size 2 (by simp)).trans (show _ = some (.int .i64 x.damp.lo) by simp [go_sem])
              have m3 := fun W (h : Ext (wr.alloc (.cells #[.int .i64 x.number, .int .i64 x.pounds, .int .i64 x.damp.lo, .int .i64 x.damp.hi] 65)) W) => (h.cells.1 wr.heap.size 3 (by simp)).trans (show _ = some (.int .i64 x.damp.hi) by simp [go_sem])
              go_wp2
              refine wp_region_tame (fun W => Ext (wr.alloc (.cells #[.int .i64 x.number, .int .i64 x.pounds, .int .i64 x.damp.lo, .int .i64 x.damp.hi] 65)) W) (fun W W' => Ext W W') (by kernel_rfl) 105 rfl (by decide +kernel) (Ext.refl _).drew ?_
              repeat
                (apply tame_q rfl
                 (intro ρ W hC hr hD
                  obtain ⟨hrc, hrg, hrf, hrs⟩ := hr
                  simp [go_sem] at hD
                  go_simp
                  exact ⟨⟨hC, Ext.refl _⟩, rfl⟩)
                 simp only [List.nil_append, List.cons_append])
              apply tame_q rfl
              · intro ρ W hC hr hD
                obtain ⟨hrc, hrg, hrf, hrs⟩ := hr
                simp [go_sem] at hD
                go_simp
                refine (f66_any d x.damp.lo _ (by omega) (by omega) HXB.out.1 HXB.out.2.1).mono ?_
                rintro e w' ⟨rfl, rfl⟩
                exact ⟨_, rfl, ⟨hC, Ext.refl _⟩, rfl⟩
              simp only [List.nil_append, List.cons_append]
              repeat
                (apply tame_q rfl
                 (intro ρ W hC hr hD
                  obtain ⟨hrc, hrg, hrf, hrs⟩ := hr
                  simp [go_sem] at hD
                  go_simp
                  exact ⟨⟨hC, Ext.refl _⟩, rfl⟩)
                 simp only [List.nil_append, List.cons_append])
              apply tame_q rfl
              · intro ρ W hC hr hD
                obtain ⟨hrc, hrg, hrf, hrs⟩ := hr
                simp [go_sem] at hD
                go_simp
                refine (f66_any d x.damp.hi _ (by omega) (by omega) HXB.out.2.2.1 HXB.out.2.2.2).mono ?_
                rintro e w' ⟨rfl, rfl⟩
                exact ⟨_, rfl, ⟨hC, Ext.refl _⟩, rfl⟩
              simp only [List.nil_append, List.cons_append]
              repeat
                (apply tame_q rfl
                 (intro ρ W hC hr hD
                  obtain ⟨hrc, hrg, hrf, hrs⟩ := hr
                  simp [go_sem] at hD
                  go_simp
                  exact ⟨⟨hC, Ext.refl _⟩, rfl⟩)
                 simp only [List.nil_append, List.cons_append])
              apply tame_v rfl (fun v W => SlI W v [x.pounds]) (fun v W W' _ hE h => h.ext hE)
              · intro ρ W hC hr hD
                obtain ⟨hrc, hrg, hrf, hrs⟩ := hr
                simp [go_sem] at hD
                go_simp
                exact ⟨⟨hC.trans (Ext.al _ _), Ext.al _ _⟩, SlI.one1 (by simp) (by simp [go_sem])⟩
              simp only [List.nil_append, List.cons_append]
              apply tame_q rfl
              · intro ρ W hC hr hD
                obtain ⟨hrc, hrg, hrf, hrs⟩ := hr
                simp [go_sem] at hD
                obtain ⟨d1, d2, d3, d4⟩ := hD
                have D3 := Lib.hid d3; clear d3
                go_simp
                refine (in_one _ _ x.pounds _ _ D3.out).mono ?_
                rintro e w' ⟨rfl, hE⟩
                exact ⟨.bool (could d x), rfl, ⟨hC.trans hE, hE⟩, rfl⟩
              simp only [List.nil_append, List.cons_append]
              repeat
                (apply tame_q rfl
                 (intro ρ W hC hr hD
                  obtain ⟨hrc, hrg, hrf, hrs⟩ := hr
                  simp [go_sem] at hD
                  go_simp
                  exact ⟨⟨hC, Ext.refl _⟩, rfl⟩)
                 simp only [List.nil_append, List.cons_append])
              refine tame_end 105 rfl rfl (fun ρ W hC hr hF => ?_)
              obtain ⟨hrc, hrg, hrf, hrs⟩ := hr
              simp [go_sem] at hF
              apply frame_to
              · go_simp
                exact rfl
              clear hF hrs hrc hrg hrf
              generalize ρ (.tmp 86) = v86
              have EX2 := Lib.hid ((EX.out.trans (Ext.al _ _)).trans hC); clear hC
              cases hcd : could d x with
              | true =>
                have HCD := Lib.hid hcd; clear hcd
                go_wp2
                go_roundg (n2 - (j + 1))
                case measure => omega
                case rel => exact ⟨j + 1, by omega, by omega, rfl, by show _ = _; rw [HAS.out, IS.out, HCD.out]; rfl, EX2.out⟩
              | false =>
                have HCD := Lib.hid hcd; clear hcd
                have HNO := Lib.hid (show b.weighs.all (could d) = false by
                  rw [List.all_eq_false]
                  exact ⟨x, List.mem_of_getElem? HX.out, by rw [HCD.out]; simp⟩)
                go_wp2
                go_roundg (b.dry.hi + 1 - (d + 1)).toNat
                case measure => omega
                case rel => exact ⟨k2 + 1, d + 1, Al, cl, rfl, by show _ = _; have := DK.out; omega, by omega, by omega, by omega, by
                  show Own _ _ _ _ _ _ _
                  rw [driesTo_succ, ← DK.out, HNO.out]; simpa using OL.out.ext EX2.out, by
                  show Blk _ _ _ _
                  rw [driesTo_succ, ← DK.out, HNO.out]; simpa using BP2.out.ext EX2.out, grown_ext GW.out EX2.out⟩
            · have HAL := Lib.hid (show b.weighs.all (could d) = true by rw [← IS.out, List.take_of_length_le (by have := hn2.out; omega)])
              have HLN := Lib.hid (driesTo_len b k2)
              have HKK := Lib.hid (show (k2 : Int) ≤ 600 by have := DK.out; omega)
              have HSU := Lib.hid (show driesTo b (k2 + 1) = driesTo b k2 ++ [d] by rw [driesTo_succ, ← DK.out, HAL.out]; rfl)
              have HBP := Lib.hid (BP2.out.ext EX.out)
              have p7 := HBP.out.cell 7
              have p7f := HBP.out.frozen 7
              have hz3 := HBP.out.lt
              have HGW := Lib.hid (grown_ext GW.out EX.out)
              go_wp2_with (at_builtin; refine wpList_app encI 56 3 1 _ 8 Tryd.underlying56 info3x rfl (by decide) (by decide) (fun _ => rfl) encI_one rfl (.tmp 91) (.tmp 93) rfl w2.heap.size _ (driesTo b k2) rfl ((OL.out.ext EX.out).alloc _) wr.heap.size 1 d rfl (cells1 (by simp [go_sem])) (by have := HLN.out; have := HKK.out; omega) (by have := EX.out.size; have := GW.out.size; simp; omega) ?_)
              intro g cap w' hown hg2 hbel hgr
              have hlt2 : w.heap.size + 2 < w2.heap.size := BP.out.lt
              have HBP2 := Lib.hid ((HBP.out.alloc _).below hbel hlt2)
              have q7 := HBP2.out.cell 7
              have q7f := HBP2.out.frozen 7
              have HG3 := Lib.hid (show w2.grownBy w' (some (w.heap.size + 2)) from grown_below (grown_ext HGW.out (Ext.al _ _)) hbel)
              have HO := Lib.hid hown; clear hown hbel hgr p7 p7f
              go_wp2
              go_roundg (b.dry.hi + 1 - (d + 1)).toNat
              case measure => omega
              case rel => exact ⟨k2 + 1, d + 1, some ⟨g, 0, none⟩, cap, rfl, by show _ = _; have := DK.out; omega, by omega, by omega, by omega, by
                show Own _ _ _ _ _ _ _
                rw [HSU.out, List.length_append]; exact HO.out.far (by first | omega | (dsimp only; omega)) _, by
                show Blk _ _ _ _
                rw [HSU.out, List.length_append]
                exact HBP2.out.set_ 7 (.slice (some ⟨g, 0, none⟩) ((driesTo b k2).length + 1) cap), grown_set HG3.out (.inl rfl) _⟩
          -- END B
        · have HDR := Lib.hid (show driesTo b k2 = dries b by unfold dries; rw [show (b.dry.hi - b.dry.lo + 1).toNat = k2 by have := DK.out; omega])
          have HOS := Lib.hid (show wr.ownsRow (w.heap.size + 3) 23 2 (.slice As kk cs) (spans b).length ((spans b).flatMap encS) by
            have h := OW.out
            rw [HSP.out] at h
            exact own_kept h GW.out (by omega))
          have HOL := Lib.hid (show wr.ownsRow w2.heap.size 3 1 (.slice Al (driesTo b k2).length cl) (dries b).length ((dries b).flatMap encI) by rw [← HDR.out]; exact OL.out)
          have hz5 : w.heap.size + 2 < w2.heap.size := BP.out.lt
          have P0 := BP2.out.cell 0
          have P1 := BP2.out.cell 1
          have P2 := BP2.out.cell 2
          have P3 := BP2.out.cell 3
          have P4 := BP2.out.cell 4
          have P5 := BP2.out.cell 5
          have P6 := BP2.out.cell 6
          have P7 := BP2.out.cell 7
          simp at P0 P1 P2 P3 P4 P5 P6 P7
          have hz3 : w.heap.size + 1 < wr.heap.size := BR2.out.lt
          have HGC := fun W (h1 : SlD W (.slice A n cp) b.draws) (h2 : SlW W (.slice A2 n2 cp2) b.weighs) (h3 : SlS W (.slice As kk cs) (spans b)) (h4 : SlI W (.slice Al (driesTo b k2).length cl) (dries b)) => grown_any b _ _ _ _ (spans b) (dries b) W h1 h2 h3 h4
          have HLN := Lib.hid (show (driesTo b k2).length = (dries b).length by rw [HDR.out])
          have HCS := fun W (h : CS wr (w.heap.size + 1) 82 8 W) (j : Nat) => (h.cell hz2 (by omega) j)
          have c0 := fun W h => (HCS W h 0).trans P0
          have c1 := fun W h => (HCS W h 1).trans P1
          have c2 := fun W h => (HCS W h 2).trans P2
          have c3 := fun W h => (HCS W h 3).trans P3
          have c4 := fun W h => (HCS W h 4).trans P4
          have c5 := fun W h => (HCS W h 5).trans P5
          have c6 := fun W h => (HCS W h 6).trans P6
          have c7 := fun W h => (HCS W h 7).trans P7
          have HST := Lib.hid (CS.start BR2.out)
          clear HCS P0 P1 P2 P3 P4 P5 P6 P7
          have HK := Lib.hid (show ∀ W, CS wr (w.heap.size + 1) 82 8 W → SlD W (.slice A n cp) b.draws ∧ SlW W (.slice A2 n2 cp2) b.weighs ∧ Own encS 23 2 W w.heap.size (.slice As kk cs) (spans b) ∧ Own encI 3 1 W w.heap.size (.slice Al (driesTo b k2).length cl) (dries b) by
            intro W hC
            have hE : Ext w W := ⟨hC.1.os.trans EW2.out.os, hC.1.tape.trans EW2.out.tape, hC.1.output.trans EW2.out.output, Nat.le_trans EW2.out.size hC.1.size, fun k hk => (hC.1.block k (Nat.lt_of_lt_of_le hk EW2.out.size) (by intro h; injection h with h; omega)).trans (EW2.out.block k hk)⟩
            exact ⟨HD.out.ext hE, HW.out.ext hE, own_mono (own_kept HOS.out hC.1 (by omega)) (by omega), own_mono (own_kept HOL.out hC.1 (by omega)) (by omega)⟩)
          cases hgr : grown (spans b)
          all_goals
            rw [hgr] at HGC
            have HG := Lib.hid HGC; clear HGC
            have HGR := Lib.hid hgr; clear hgr
            go_wp2
            refine wp_region_tame (fun W => CS wr (w.heap.size + 1) 82 8 W) (fun W W' => RS (w.heap.size + 1) 82 #[.int .i64 b.id, .int .i64 b.layers, .int .i64 b.dry.lo, .int .i64 b.dry.hi, .slice A n cp, .slice A2 n2 cp2, .slice As kk cs, .slice Al (driesTo b k2).length cl] W W') (by kernel_rfl) 105 rfl (by decide +kernel) HST.out ?_
            repeat
              (apply tame_q rfl
               (intro ρ W hC hr hD
                obtain ⟨hrc, hrg, hrf, hrs⟩ := hr
                simp [go_sem] at hD
                go_simp
                first | exact ⟨⟨hC, RS.refl _⟩, rfl⟩ | exact rfl)
               simp only [List.nil_append, List.cons_append])
            apply tame_q rfl
            · intro ρ W hC hr hD
              obtain ⟨hrc, hrg, hrf, hrs⟩ := hr
              simp [go_sem] at hD
              go_simp
              obtain ⟨hk1, hk2, hk3, hk4⟩ := HK.out W hC
              refine (HG.out W hk1 hk2 (hk3.sl (fun _ => rfl)) (hk4.sl (fun _ => rfl))).mono ?_
              rintro e w' ⟨rfl, hE⟩
              exact ⟨_, rfl, ⟨hC.ext hE, RS.ext hE⟩, rfl⟩
            simp only [List.nil_append, List.cons_append]
            repeat
              (apply tame_q rfl
               (intro ρ W hC hr hD
                obtain ⟨hrc, hrg, hrf, hrs⟩ := hr
                simp [go_sem] at hD
                go_simp
                first | exact ⟨⟨hC, RS.refl _⟩, rfl⟩ | exact rfl)
               simp only [List.nil_append, List.cons_append])
            apply tame_n (fun _ W => Blk W (w.heap.size + 1) 82 #[.int .i64 b.id, .int .i64 b.layers, .int .i64 b.dry.lo, .int .i64 b.dry.hi, .slice A n cp, .slice A2 n2 cp2, .slice As kk cs, .slice Al (driesTo b k2).length cl]) (fun _ W W' _ hR h => hR.2 h)
            · intro ρ W hC hr hD
              obtain ⟨hrc, hrg, hrf, hrs⟩ := hr
              simp [go_sem] at hD
              obtain ⟨hg1, cs0, hB, hsz⟩ := hC
              obtain ⟨cs0⟩ := cs0
              obtain ⟨x0, x1, x2, x3, x4, x5, x6, x7, rfl⟩ : ∃ x0 x1 x2 x3 x4 x5 x6 x7, cs0 = [x0, x1, x2, x3, x4, x5, x6, x7] := by
                match cs0, hsz with
                | [x0, x1, x2, x3, x4, x5, x6, x7], _ => exact ⟨_, _, _, _, _, _, _, _, rfl⟩
              have b0 := hB.cell 0
              have b1 := hB.cell 1
              have b2 := hB.cell 2
              have b3 := hB.cell 3
              have b4 := hB.cell 4
              have b5 := hB.cell 5
              have b6 := hB.cell 6
              have b7 := hB.cell 7
              have bf := hB.frozen
              have HB := Lib.hid hB; have HG1 := Lib.hid hg1; clear hB hg1
              simp at b0 b1 b2 b3 b4 b5 b6 b7
              go_simp
              exact store8 HG1.out HB.out _ _ _ _ _ _ _ _
            simp only [List.nil_append, List.cons_append]
            repeat
              (apply tame_q rfl
               (intro ρ W hC hr hD
                obtain ⟨hrc, hrg, hrf, hrs⟩ := hr
                simp [go_sem] at hD
                go_simp
                first | exact ⟨⟨hC, RS.refl _⟩, rfl⟩ | exact rfl)
               simp only [List.nil_append, List.cons_append])
            refine tame_end 105 rfl rfl (fun ρ W hC hr hF => ?_)
            obtain ⟨hrc, hrg, hrf, hrs⟩ := hr
            have hBF : Blk W (w.heap.size + 1) 82 #[.int .i64 b.id, .int .i64 b.layers, .int .i64 b.dry.lo, .int .i64 b.dry.hi, .slice A n cp, .slice A2 n2 cp2, .slice As kk cs, .slice Al (driesTo b k2).length cl] := hF.2.2.2.2.2.2.2.2.2.1
            have HBF := Lib.hid hBF; clear hBF
            simp [go_sem] at hF
            apply frame_to
            · go_simp
              exact rfl
            clear hF hrs hrc hrg hrf
            have HC := Lib.hid hC; clear hC
            clear c0 c1 c2 c3 c4 c5 c6 c7
            go_wp2
            rw [Exit.noGoto_ret]
            have B0 := HBF.out.cell 0
            have B1 := HBF.out.cell 1
            have B2 := HBF.out.cell 2
            have B3 := HBF.out.cell 3
            have B4 := HBF.out.cell 4
            have B5 := HBF.out.cell 5
            have B6 := HBF.out.cell 6
            have B7 := HBF.out.cell 7
            simp at B0 B1 B2 B3 B4 B5 B6 B7
            refine bodyPost_ret (v := .tuple #[valP b (.slice A n cp) (.slice A2 n2 cp2) (.slice As kk cs) (.slice Al (driesTo b k2).length cl), .bool (okB b)]) (by
              have hlb : okB b = (grown (spans b) && decide (0 < (driesTo b k2).length)) := by
                unfold okB; rw [HDR.out]; cases dries b <;> simp
              rw [HGR.out] at hlb
              simp [results, Tryd.results48, go_sem, hlb, B0, B1, B2, B3, B4, B5, B6, B7]) rfl ?_
            have hkk := HK.out W HC.out
            exact OpenedPost.of rfl hkk.2.2.1 hkk.2.2.2 ⟨HC.out.1.os.trans EW2.out.os, HC.out.1.tape.trans EW2.out.tape, HC.out.1.output.trans EW2.out.output, Nat.le_trans EW2.out.size HC.out.1.size, fun k hk => (HC.out.1.block k (Nat.lt_of_lt_of_le hk EW2.out.size) (by intro h; injection h with h; omega)).trans (EW2.out.block k hk)⟩
end Go.Proofs.YtcoiahjehlplfaaDoor
