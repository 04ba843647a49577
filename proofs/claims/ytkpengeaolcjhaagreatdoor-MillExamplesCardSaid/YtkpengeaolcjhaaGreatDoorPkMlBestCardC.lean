/- core.opened, core.grown: a press holds what is known of the layers and the dry weights that can be. -/
import Derived.Test.YtkpengeaolcjhaaGreatDoorPkMlBestCardB
import Derived.WalkMore
import Derived.RegionTactic
namespace Go.Proofs.YtkpengeaolcjhaaGreatDoor
open Go.RowKit Go.Shelf
set_option maxRecDepth 100000

abbrev valP (b : Bale) (dv wv sv lv : Value) : Value := .agg #[.int .i64 b.id, .int .i64 b.layers, .int .i64 b.dry.lo, .int .i64 b.dry.hi, dv, wv, sv, lv]

theorem f165_any (s : Span) (w : World) : Calls Tryz.prog 165 #[valS s] w fun e w' => e = .returned (.bool (!okS s)) ∧ Ext w w' := by
  go_enter Tryz.func165, Tryz.ntmps165
  go_wp2
  all_goals go_ret
  all_goals exact ⟨ret_bool (by unfold okS; first | (simp [*]; done) | (rw [Bool.eq_iff_iff]; simp)), Ext.al _ _⟩
theorem grown_any (b : Bale) (dv wv sv lv : Value) (l : List Span) (l2 : List Int) (w : World) (hd : SlD w dv b.draws) (hw : SlW w wv b.weighs) (hs : SlS w sv l) (hl : SlI w lv l2) :
    Calls Tryz.prog 155 #[valP b dv wv sv lv] w fun e w' => e = .returned (.bool (grown l)) ∧ Ext w w' := by
  obtain ⟨A, n, cp, rfl, hn, hlc, hcm⟩ := hd.form
  obtain ⟨A2, n2, cp2, rfl, hn2, hlc2, hcm2⟩ := hw.form
  obtain ⟨A3, n3, cp3, rfl, hn3, hlc3, hcm3⟩ := hs.form
  obtain ⟨A4, n4, cp4, rfl, hn4, hlc4, hcm4⟩ := hl.form
  have HS := Lib.hid hs; clear hd hw hs hl
  go_enter Tryz.func155, Tryz.ntmps155
  go_wp2_with fail
  refine (f164_any 165 _ (enters_of Tryz.func165 (by kernel_rfl) rfl) (fun s => !okS s) l _ _ (HS.out.ext (Ext.al _ _)) ?_).mono ?_
  · intro W x _ hW
    exact f165_any x W
  rintro e w1 ⟨rfl, hb1⟩
  generalize hr : (l.any fun s => !okS s) = r
  have HR := Lib.hid hr; clear hr
  go_wp2
  go_ret
  exact ⟨ret_bool (by rw [← HR.out]; unfold grown; rw [List.all_eq_not_any_not]), (Ext.al _ _).trans hb1⟩

def okB (b : Bale) : Bool := grown (spans b) && !(dries b).isEmpty
def OpenedPost (b : Bale) (dv wv : Value) (w : World) (e : Ending) (w' : World) : Prop :=
  ∃ sv lv, e = .returned (.tuple #[valP b dv wv sv lv, .bool (okB b)]) ∧ Own encS 57 2 w' w.heap.size sv (spans b) ∧ Own encI 3 1 w' w.heap.size lv (dries b) ∧ Ext w w'
theorem OpenedPost.of {b : Bale} {dv wv sv lv : Value} {w w' : World} {g : Bool} (hg : g = okB b) (h1 : Own encS 57 2 w' w.heap.size sv (spans b)) (h2 : Own encI 3 1 w' w.heap.size lv (dries b)) (hE : Ext w w') : OpenedPost b dv wv w (.returned (.tuple #[valP b dv wv sv lv, .bool g])) w' := by
  subst hg; exact ⟨sv, lv, rfl, h1, h2, hE⟩

set_option maxHeartbeats 2000000 in
theorem opened_any (b : Bale) (dv wv : Value) (w : World) (hd : SlD w dv b.draws) (hw : SlW w wv b.weighs) (hl1 : 1 ≤ b.layers) (hl5 : b.layers ≤ 5) (hb1 : 1 ≤ b.dry.lo) (hb2 : b.dry.lo ≤ b.dry.hi) (hb3 : b.dry.hi ≤ 600)
    (hbw : ∀ x ∈ b.weighs, 0 ≤ x.damp.lo ∧ x.damp.lo ≤ 1000000 ∧ 0 ≤ x.damp.hi ∧ x.damp.hi ≤ 1000000) :
    Calls Tryz.prog 134 #[valB b dv wv] w (OpenedPost b dv wv w) := by
  have HD := Lib.hid hd
  have HW := Lib.hid hw
  have HBW := Lib.hid hbw
  obtain ⟨A, n, cp, rfl, hn, hlc, hcm⟩ := hd.form
  obtain ⟨A2, n2, cp2, rfl, hn2, hlc2, hcm2⟩ := hw.form
  clear hd hw hbw
  go_enter Tryz.func134, Tryz.ntmps134
  go_wp2
  go_step3
  go_wp2
  go_loopg [16] 5 (fun gg s wr => ∃ (kk : Nat) (As : Option Addr) (cs : Nat), (kk : Int) ≤ b.layers ∧ (b.layers - kk).toNat ≤ gg ∧ s = .int .i64 kk ∧ Aside (Own encS 57 2 wr (w.heap.size + 3) (.slice As kk cs) (spansTo b kk)) ∧
    Aside (Blk wr (w.heap.size + 2) 166 #[.int .i64 b.id, .int .i64 b.layers, .int .i64 b.dry.lo, .int .i64 b.dry.hi, .slice A n cp, .slice A2 n2 cp2, .slice As kk cs, .slice none 0 0]) ∧
    Aside (Blk wr w.heap.size 61 #[.int .i64 b.id, .int .i64 b.layers, .int .i64 b.dry.lo, .int .i64 b.dry.hi, .slice A n cp, .slice A2 n2 cp2]) ∧
    Aside (Blk wr (w.heap.size + 1) 166 #[.int .i64 0, .int .i64 0, .int .i64 0, .int .i64 0, .slice none 0 0, .slice none 0 0, .slice none 0 0, .slice none 0 0]) ∧ Aside (Ext w wr))
  case atStart => exact ⟨0, none, 0, by omega, by omega, rfl, Own.nil _ _, Blk.at_ (by simp), ((Blk.at_ rfl).alloc _).alloc _, (Blk.at_ (by simp)).alloc _, ((Ext.al w _).alloc _).alloc _⟩
  case round =>
    obtain ⟨kk, As, cs, hkk, hg, rfl, OW, BP, BB, BR, EW⟩ := hrel
    have q1 : wr.cell? ⟨w.heap.size, 1, none⟩ = some (.int .i64 b.layers) := BB.out.cell 1
    have q2 : wr.cell? ⟨w.heap.size, 2, none⟩ = some (.int .i64 b.dry.lo) := BB.out.cell 2
    have q3 : wr.cell? ⟨w.heap.size, 3, none⟩ = some (.int .i64 b.dry.hi) := BB.out.cell 3
    have q4 : wr.cell? ⟨w.heap.size, 4, none⟩ = some (.slice A n cp) := BB.out.cell 4
    have q5 : wr.cell? ⟨w.heap.size, 5, none⟩ = some (.slice A2 n2 cp2) := BB.out.cell 5
    have p6 : wr.cell? ⟨w.heap.size + 2, 6, none⟩ = some (.slice As kk cs) := BP.out.cell 6
    have p6f : wr.frozen? ⟨w.heap.size + 2, 6, none⟩ = false := BP.out.frozen 6
    have hz2 : w.heap.size + 2 < wr.heap.size := BP.out.lt
    have hz1 : w.heap.size < wr.heap.size := by omega
    by_cases hlt : (kk : Int) < b.layers
    ·
      -- BLOCK A
      obtain ⟨wo, hwo⟩ : ∃ wo : World, wo = wr := ⟨_, rfl⟩
      subst hwo
      go_wp2
      go_loopg [23] n (fun gg s wr => ∃ (j : Nat) (lo hi : Int), j ≤ n ∧ n - j ≤ gg ∧ s = .int .i64 j ∧ Aside ((b.draws.take j).foldl (spanStep kk) ⟨1, 9⟩ = ⟨lo, hi⟩) ∧ Aside (Blk wr wo.heap.size 57 #[.int .i64 lo, .int .i64 hi]) ∧ Aside (Ext wo wr))
      case atStart => exact ⟨0, 1, 9, Nat.zero_le _, by omega, rfl, rfl, Blk.new _ _ _, Ext.al _ _⟩
      case round =>
        obtain ⟨j, lo, hi, hj, hgj, rfl, FO, BL, EX⟩ := hrel
        have s0 : wr.cell? ⟨wo.heap.size, 0, none⟩ = some (.int .i64 lo) := BL.out.cell 0
        have s1 : wr.cell? ⟨wo.heap.size, 1, none⟩ = some (.int .i64 hi) := BL.out.cell 1
        have f0 : wr.frozen? ⟨wo.heap.size, 0, none⟩ = false := BL.out.frozen 0
        have f1 : wr.frozen? ⟨wo.heap.size, 1, none⟩ = false := BL.out.frozen 1
        have hso : wo.heap.size < wr.heap.size := BL.out.lt
        by_cases hjn : j < n
        · have hjz : (j : Int) < (n : Int) := by omega
          obtain ⟨bb, off, x, rfl, hx, hb, hcell⟩ := HD.out.at_ hjn
          obtain ⟨c0, c1, c2, c3⟩ := SlD.cells hcell (EW.out.trans EX.out)
          have HX := Lib.hid hx; clear hx hcell hb
          have HFO := Lib.hid (foldl_snoc (spanStep kk) ⟨1, 9⟩ _ _ _ HX.out)
          have el := eql134l x.number x.layer x.grade.lo x.grade.hi kk
          by_cases he : x.layer = kk
          · have HE := Lib.hid he
            have he' : (x.layer == (kk : Int)) = true := by simpa using he
            clear he
            go_wp2
            go_region
            all_goals (try go_wp2)
            go_roundg (n - (j + 1))
            case measure => omega
            case rel => exact ⟨j + 1, max lo x.grade.lo, min hi x.grade.hi, by omega, by omega, rfl, by show _ = _; rw [HFO.out, FO.out, spanStep, if_pos HE.out], ((BL.out.set_ 0 _).set_ 1 _).alloc _, (((EX.out.setCell (Nat.le_refl _) _).setCell (Nat.le_refl _) _).alloc _).drew⟩
          · have HE := Lib.hid he
            have he' : (x.layer == (kk : Int)) = false := by simpa using he
            clear he
            go_wp2
            go_roundg (n - (j + 1))
            case measure => omega
            case rel => exact ⟨j + 1, lo, hi, by omega, by omega, rfl, by show _ = _; rw [HFO.out, FO.out, spanStep, if_neg HE.out], BL.out.alloc _, EX.out.alloc _⟩
        · have HSP := Lib.hid (show spanAt b.draws kk = ⟨lo, hi⟩ by unfold spanAt; rw [← FO.out, List.take_of_length_le (by have := hn.out; omega)])
          have HOL := Lib.hid (spansTo_len b kk)
          have p6' : wr.cell? ⟨w.heap.size + 2, 6, none⟩ = some (.slice As kk cs) := (EX.out.cells.1 _ _ hz2).trans p6
          have p6f' : wr.frozen? ⟨w.heap.size + 2, 6, none⟩ = false := (EX.out.cells.2 _ _ hz2).trans p6f
          have hz2' : w.heap.size + 2 < wr.heap.size := by have := EX.out.size; omega
          have OW' : Aside (Own encS 57 2 wr (w.heap.size + 3) (.slice As (spansTo b kk).length cs) (spansTo b kk)) := by rw [HOL.out]; exact OW.out.ext EX.out
          have HBP := Lib.hid (BP.out.ext EX.out)
          have HBB := Lib.hid (BB.out.ext EX.out)
          have HBR := Lib.hid (BR.out.ext EX.out)
          have HEW := Lib.hid (EW.out.trans EX.out)
          clear p6 p6f BP BB BR EW OW
          go_wp2_with (at_builtin; refine wpList_app encS 164 57 2 _ 16 Tryz.underlying164 info57x rfl (by decide) (by decide) (fun _ => rfl) encS_one rfl (.tmp 51) (.tmp 53) rfl (w.heap.size + 3) _ (spansTo b kk) (by rw [HOL.out]; rfl) (OW'.out.alloc _) wr.heap.size 1 ⟨lo, hi⟩ rfl (cells2 (by simp [go_sem]) (by simp [go_sem])) (by rw [HOL.out]; omega) (by simp; omega) ?_)
          intro g cap w' hown hg2 hbel _
          have HBP2 := Lib.hid ((HBP.out.alloc _).below hbel (by omega))
          have q6 := HBP2.out.cell 6
          have q6f := HBP2.out.frozen 6
          have HBB2 := Lib.hid ((HBB.out.alloc _).below hbel (by omega))
          have HBR2 := Lib.hid ((HBR.out.alloc _).below hbel (by omega))
          have HE2 := Lib.hid (show Ext w w' from Below.trans (HEW.out.alloc (.cells #[.int .i64 lo, .int .i64 hi] 57)) (hbel.mono (by omega)))
          have HO := Lib.hid hown; clear hown hbel p6' p6f'
          go_wp2
          go_roundg (b.layers - (kk + 1)).toNat
          case measure => omega
          case rel => exact ⟨kk + 1, some ⟨g, 0, none⟩, cap, by omega, by omega, rfl, by
              show Own _ _ _ _ _ _ _
              rw [spansTo_succ, HSP.out]; have := HO.out; rw [HOL.out] at this; exact this.far (by first | omega | (dsimp only; omega)) _, by
              show Blk _ _ _ _
              have := HBP2.out.set_ 6 (.slice (some ⟨g, 0, none⟩) ((spansTo b kk).length + 1) cap)
              rw [HOL.out] at this ⊢
              exact this, HBB2.out.far (by first | omega | (dsimp only; omega)) _, HBR2.out.far (by first | omega | (dsimp only; omega)) _, HE2.out.setCell (by first | omega | (dsimp only; omega)) _⟩
      -- END A
    · obtain ⟨w2, hw2⟩ : ∃ w2 : World, w2 = wr := ⟨_, rfl⟩
      subst hw2
      have HSP := Lib.hid (show spansTo b kk = spans b by unfold spans; rw [show b.layers.toNat = kk by omega])
      go_wp2
      go_step3
      go_wp2
      go_loopg [9] 600 (fun gg s wr => ∃ (k2 : Nat) (d : Int) (Al : Option Addr) (cl : Nat), s = .int .i64 d ∧ Aside (d = b.dry.lo + k2) ∧ b.dry.lo ≤ d ∧ d ≤ b.dry.hi + 1 ∧ (b.dry.hi + 1 - d).toNat ≤ gg ∧ Aside (Own encI 3 1 wr w2.heap.size (.slice Al (driesTo b k2).length cl) (driesTo b k2)) ∧
        Aside (Blk wr (w.heap.size + 2) 166 #[.int .i64 b.id, .int .i64 b.layers, .int .i64 b.dry.lo, .int .i64 b.dry.hi, .slice A n cp, .slice A2 n2 cp2, .slice As kk cs, .slice Al (driesTo b k2).length cl]) ∧ Aside (w2.grownBy wr (some (w.heap.size + 2))))
      case atStart => exact ⟨0, b.dry.lo, none, 0, rfl, by show _ = _; simp, by omega, by omega, by omega, Own.nil _ _, BP.out, World.grownBy.refl _ _⟩
      case round =>
        obtain ⟨k2, d, Al, cl, rfl, DK, hd1, hd2, hg, OL, BP2, GW⟩ := hrel
        have BB2 := Lib.hid (BB.out.grown GW.out (by simp))
        have BR2 := Lib.hid (BR.out.grown GW.out (by simp))
        have q3 : wr.cell? ⟨w.heap.size, 3, none⟩ = some (.int .i64 b.dry.hi) := BB2.out.cell 3
        have q5 : wr.cell? ⟨w.heap.size, 5, none⟩ = some (.slice A2 n2 cp2) := BB2.out.cell 5
        have hz2 : w.heap.size + 2 < wr.heap.size := BP2.out.lt
        have hz1 : w.heap.size < wr.heap.size := by omega
        have EW2 := Lib.hid (show Ext w wr from ⟨GW.out.os.trans EW.out.os, GW.out.tape.trans EW.out.tape, GW.out.output.trans EW.out.output, Nat.le_trans EW.out.size GW.out.size, fun k hk => (GW.out.block k (Nat.lt_of_lt_of_le hk EW.out.size) (by simp; omega)).trans (EW.out.block k hk)⟩)
        by_cases hlt : d ≤ b.dry.hi
        ·
          -- BLOCK B
          obtain ⟨w3, hw3⟩ : ∃ w3 : World, w3 = wr := ⟨_, rfl⟩
          subst hw3
          go_wp2
          go_loopg [70] n2 (fun gg s wr => ∃ (j : Nat), j ≤ n2 ∧ n2 - j ≤ gg ∧ s = .int .i64 j ∧ Aside ((b.weighs.take j).all (could d) = true) ∧ Aside (Ext w3 wr))
          case atStart => exact ⟨0, Nat.zero_le _, by omega, rfl, rfl, Ext.refl _⟩
          case round =>
            obtain ⟨j, hj, hgj, rfl, IS, EX⟩ := hrel
            by_cases hjn : j < n2
            · have hjz : (j : Int) < (n2 : Int) := by omega
              obtain ⟨bb, off, x, rfl, hx, hb, hcell⟩ := HW.out.at_ hjn
              obtain ⟨c0, c1, c2, c3⟩ := SlW.cells hcell (EW2.out.trans EX.out)
              have HX := Lib.hid hx
              have HXB := Lib.hid (HBW.out x (List.mem_of_getElem? hx)); clear hx hcell hb
              have HAS := Lib.hid (all_snoc (could d) _ _ _ HX.out)
              have m1 := fun W (h : Ext (wr.alloc (.cells #[.int .i64 x.number, .int .i64 x.pounds, .int .i64 x.damp.lo, .int .i64 x.damp.hi] 186)) W) => (h.cells.1 wr.heap.size 1 (by simp)).trans (show _ = some (.int .i64 x.pounds) by simp [go_sem])
              have m2 := fun W (h : Ext (wr.alloc (.cells #[.int .i64 x.number, .int .i64 x.pounds, .int .i64 x.damp.lo, .int .i64 x.damp.hi] 186)) W) => (h.cells.1 wr.heap.size 2 (by simp)).trans (show _ = some (.int .i64 x.damp.lo) by simp [go_sem])
              have m3 := fun W (h : Ext (wr.alloc (.cells #[.int .i64 x.number, .int .i64 x.pounds, .int .i64 x.damp.lo, .int .i64 x.damp.hi] 186)) W) => (h.cells.1 wr.heap.size 3 (by simp)).trans (show _ = some (.int .i64 x.damp.hi) by simp [go_sem])
              go_wp2
              refine wp_region_tame (fun W => Ext (wr.alloc (.cells #[.int .i64 x.number, .int .i64 x.pounds, .int .i64 x.damp.lo, .int .i64 x.damp.hi] 186)) W) (fun W W' => Ext W W') (by kernel_rfl) 105 rfl (by decide +kernel) (Ext.refl _).drew ?_
              repeat
                (apply tame_q rfl
                 (intro ρ W hC hr hD
                  obtain ⟨hrc, hrg, hrf, hrs⟩ := hr
                  simp [go_sem] at hD
                  go_simp
                  exact ⟨⟨hC, Ext.refl _⟩, rfl⟩)
                 simp only [List.nil_append, List.cons_append])
              apply tame_q rfl
              · intro ρ W hC hr hD
                obtain ⟨hrc, hrg, hrf, hrs⟩ := hr
                simp [go_sem] at hD
                go_simp
                refine (f154_any d x.damp.lo _ (by omega) (by omega) HXB.out.1 HXB.out.2.1).mono ?_
                rintro e w' ⟨rfl, rfl⟩
                exact ⟨_, rfl, ⟨hC, Ext.refl _⟩, rfl⟩
              simp only [List.nil_append, List.cons_append]
              repeat
                (apply tame_q rfl
                 (intro ρ W hC hr hD
                  obtain ⟨hrc, hrg, hrf, hrs⟩ := hr
                  simp [go_sem] at hD
                  go_simp
                  exact ⟨⟨hC, Ext.refl _⟩, rfl⟩)
                 simp only [List.nil_append, List.cons_append])
              apply tame_q rfl
              · intro ρ W hC hr hD
                obtain ⟨hrc, hrg, hrf, hrs⟩ := hr
                simp [go_sem] at hD
                go_simp
                refine (f154_any d x.damp.hi _ (by omega) (by omega) HXB.out.2.2.1 HXB.out.2.2.2).mono ?_
                rintro e w' ⟨rfl, rfl⟩
                exact ⟨_, rfl, ⟨hC, Ext.refl _⟩, rfl⟩
              simp only [List.nil_append, List.cons_append]
              repeat
                (apply tame_q rfl
                 (intro ρ W hC hr hD
                  obtain ⟨hrc, hrg, hrf, hrs⟩ := hr
                  simp [go_sem] at hD
                  go_simp
                  exact ⟨⟨hC, Ext.refl _⟩, rfl⟩)
                 simp only [List.nil_append, List.cons_append])
              apply tame_v rfl (fun v W => SlI W v [x.pounds]) (fun v W W' _ hE h => h.ext hE)
              · intro ρ W hC hr hD
                obtain ⟨hrc, hrg, hrf, hrs⟩ := hr
                simp [go_sem] at hD
                go_simp
                exact ⟨⟨hC.trans (Ext.al _ _), Ext.al _ _⟩, SlI.one1 (by simp) (by simp [go_sem])⟩
              simp only [List.nil_append, List.cons_append]
              apply tame_q rfl
              · intro ρ W hC hr hD
                obtain ⟨hrc, hrg, hrf, hrs⟩ := hr
                simp [go_sem] at hD
                obtain ⟨d1, d2, d3, d4⟩ := hD
                have D3 := Lib.hid d3; clear d3
                go_simp
                refine (in_one _ _ x.pounds _ _ D3.out).mono ?_
                rintro e w' ⟨rfl, hE⟩
                exact ⟨.bool (could d x), rfl, ⟨hC.trans hE, hE⟩, rfl⟩
              simp only [List.nil_append, List.cons_append]
              repeat
                (apply tame_q rfl
                 (intro ρ W hC hr hD
                  obtain ⟨hrc, hrg, hrf, hrs⟩ := hr
                  simp [go_sem] at hD
                  go_simp
                  exact ⟨⟨hC, Ext.refl _⟩, rfl⟩)
                 simp only [List.nil_append, List.cons_append])
              refine tame_end 105 rfl rfl (fun ρ W hC hr hF => ?_)
              obtain ⟨hrc, hrg, hrf, hrs⟩ := hr
              simp [go_sem] at hF
              apply frame_to
              · go_simp
                exact rfl
              clear hF hrs hrc hrg hrf
              generalize ρ (.tmp 86) = v86
              have EX2 := Lib.hid ((EX.out.trans (Ext.al _ _)).trans hC); clear hC
              cases hcd : could d x with
              | true =>
                have HCD := Lib.hid hcd; clear hcd
                go_wp2
                go_roundg (n2 - (j + 1))
                case measure => omega
                case rel => exact ⟨j + 1, by omega, by omega, rfl, by show _ = _; rw [HAS.out, IS.out, HCD.out]; rfl, EX2.out⟩
              | false =>
                have HCD := Lib.hid hcd; clear hcd
                have HNO := Lib.hid (show b.weighs.all (could d) = false by
                  rw [List.all_eq_false]
                  exact ⟨x, List.mem_of_getElem? HX.out, by rw [HCD.out]; simp⟩)
                go_wp2
                go_roundg (b.dry.hi + 1 - (d + 1)).toNat
                case measure => omega
                case rel => exact ⟨k2 + 1, d + 1, Al, cl, rfl, by show _ = _; have := DK.out; omega, by omega, by omega, by omega, by
                  show Own _ _ _ _ _ _ _
                  rw [driesTo_succ, ← DK.out, HNO.out]; simpa using OL.out.ext EX2.out, by
                  show Blk _ _ _ _
                  rw [driesTo_succ, ← DK.out, HNO.out]; simpa using BP2.out.ext EX2.out, grown_ext GW.out EX2.out⟩
            · have HAL := Lib.hid (show b.weighs.all (could d) = true by rw [← IS.out, List.take_of_length_le (by have := hn2.out; omega)])
              have HLN := Lib.hid (driesTo_len b k2)
              have HKK := Lib.hid (show (k2 : Int) ≤ 600 by have := DK.out; omega)
              have HSU := Lib.hid (show driesTo b (k2 + 1) = driesTo b k2 ++ [d] by rw [driesTo_succ, ← DK.out, HAL.out]; rfl)
              have HBP := Lib.hid (BP2.out.ext EX.out)
              have p7 := HBP.out.cell 7
              have p7f := HBP.out.frozen 7
              have hz3 := HBP.out.lt
              have HGW := Lib.hid (grown_ext GW.out EX.out)
              go_wp2_with (at_builtin; refine wpList_app encI 36 3 1 _ 8 Tryz.underlying36 info3x rfl (by decide) (by decide) (fun _ => rfl) encI_one rfl (.tmp 91) (.tmp 93) rfl w2.heap.size _ (driesTo b k2) rfl ((OL.out.ext EX.out).alloc _) wr.heap.size 1 d rfl (cells1 (by simp [go_sem])) (by have := HLN.out; have := HKK.out; omega) (by have := EX.out.size; have := GW.out.size; simp; omega) ?_)
              intro g cap w' hown hg2 hbel hgr
              have hlt2 : w.heap.size + 2 < w2.heap.size := BP.out.lt
              have HBP2 := Lib.hid ((HBP.out.alloc _).below hbel hlt2)
              have q7 := HBP2.out.cell 7
              have q7f := HBP2.out.frozen 7
              have HG3 := Lib.hid (show w2.grownBy w' (some (w.heap.size + 2)) from grown_below (grown_ext HGW.out (Ext.al _ _)) hbel)
              have HO := Lib.hid hown; clear hown hbel hgr p7 p7f
              go_wp2
              go_roundg (b.dry.hi + 1 - (d + 1)).toNat
              case measure => omega
              case rel => exact ⟨k2 + 1, d + 1, some ⟨g, 0, none⟩, cap, rfl, by show _ = _; have := DK.out; omega, by omega, by omega, by omega, by
                show Own _ _ _ _ _ _ _
                rw [HSU.out, List.length_append]; exact HO.out.far (by first | omega | (dsimp only; omega)) _, by
                show Blk _ _ _ _
                rw [HSU.out, List.length_append]
                exact HBP2.out.set_ 7 (.slice (some ⟨g, 0, none⟩) ((driesTo b k2).length + 1) cap), grown_set HG3.out (.inl rfl) _⟩
          -- END B
        · have HDR := Lib.hid (show driesTo b k2 = dries b by unfold dries; rw [show (b.dry.hi - b.dry.lo + 1).toNat = k2 by have := DK.out; omega])
          have HOS := Lib.hid (show wr.ownsRow (w.heap.size + 3) 57 2 (.slice As kk cs) (spans b).length ((spans b).flatMap encS) by
            have h := OW.out
            rw [HSP.out] at h
            exact own_kept h GW.out (by omega))
          have HOL := Lib.hid (show wr.ownsRow w2.heap.size 3 1 (.slice Al (driesTo b k2).length cl) (dries b).length ((dries b).flatMap encI) by rw [← HDR.out]; exact OL.out)
          have hz5 : w.heap.size + 2 < w2.heap.size := BP.out.lt
          have P0 := BP2.out.cell 0
          have P1 := BP2.out.cell 1
          have P2 := BP2.out.cell 2
          have P3 := BP2.out.cell 3
          have P4 := BP2.out.cell 4
          have P5 := BP2.out.cell 5
          have P6 := BP2.out.cell 6
          have P7 := BP2.out.cell 7
          simp at P0 P1 P2 P3 P4 P5 P6 P7
          have hz3 : w.heap.size + 1 < wr.heap.size := BR2.out.lt
          have HGC := fun W (h1 : SlD W (.slice A n cp) b.draws) (h2 : SlW W (.slice A2 n2 cp2) b.weighs) (h3 : SlS W (.slice As kk cs) (spans b)) (h4 : SlI W (.slice Al (driesTo b k2).length cl) (dries b)) => grown_any b _ _ _ _ (spans b) (dries b) W h1 h2 h3 h4
          have HLN := Lib.hid (show (driesTo b k2).length = (dries b).length by rw [HDR.out])
          have HCS := fun W (h : CS wr (w.heap.size + 1) 166 8 W) (j : Nat) => (h.cell hz2 (by omega) j)
          have c0 := fun W h => (HCS W h 0).trans P0
          have c1 := fun W h => (HCS W h 1).trans P1
          have c2 := fun W h => (HCS W h 2).trans P2
          have c3 := fun W h => (HCS W h 3).trans P3
          have c4 := fun W h => (HCS W h 4).trans P4
          have c5 := fun W h => (HCS W h 5).trans P5
          have c6 := fun W h => (HCS W h 6).trans P6
          have c7 := fun W h => (HCS W h 7).trans P7
          have HST := Lib.hid (CS.start BR2.out)
          clear HCS P0 P1 P2 P3 P4 P5 P6 P7
          have HK := Lib.hid (show ∀ W, CS wr (w.heap.size + 1) 166 8 W → SlD W (.slice A n cp) b.draws ∧ SlW W (.slice A2 n2 cp2) b.weighs ∧ Own encS 57 2 W w.heap.size (.slice As kk cs) (spans b) ∧ Own encI 3 1 W w.heap.size (.slice Al (driesTo b k2).length cl) (dries b) by
            intro W hC
            have hE : Ext w W := ⟨hC.1.os.trans EW2.out.os, hC.1.tape.trans EW2.out.tape, hC.1.output.trans EW2.out.output, Nat.le_trans EW2.out.size hC.1.size, fun k hk => (hC.1.block k (Nat.lt_of_lt_of_le hk EW2.out.size) (by intro h; injection h with h; omega)).trans (EW2.out.block k hk)⟩
            exact ⟨HD.out.ext hE, HW.out.ext hE, own_mono (own_kept HOS.out hC.1 (by omega)) (by omega), own_mono (own_kept HOL.out hC.1 (by omega)) (by omega)⟩)
          cases hgr : grown (spans b)
          all_goals
            rw [hgr] at HGC
            have HG := Lib.hid HGC; clear HGC
            have HGR := Lib.hid hgr; clear hgr
            go_wp2
            refine wp_region_tame (fun W => CS wr (w.heap.size + 1) 166 8 W) (fun W W' => RS (w.heap.size + 1) 166 #[.int .i64 b.id, .int .i64 b.layers, .int .i64 b.dry.lo, .int .i64 b.dry.hi, .slice A n cp, .slice A2 n2 cp2, .slice As kk cs, .slice Al (driesTo b k2).length cl] W W') (by kernel_rfl) 105 rfl (by decide +kernel) HST.out ?_
            repeat
              (apply tame_q rfl
               (intro ρ W hC hr hD
                obtain ⟨hrc, hrg, hrf, hrs⟩ := hr
                simp [go_sem] at hD
                go_simp
                first | exact ⟨⟨hC, RS.refl _⟩, rfl⟩ | exact rfl)
               simp only [List.nil_append, List.cons_append])
            apply tame_q rfl
            · intro ρ W hC hr hD
              obtain ⟨hrc, hrg, hrf, hrs⟩ := hr
              simp [go_sem] at hD
              go_simp
              obtain ⟨hk1, hk2, hk3, hk4⟩ := HK.out W hC
              refine (HG.out W hk1 hk2 (hk3.sl (fun _ => rfl)) (hk4.sl (fun _ => rfl))).mono ?_
              rintro e w' ⟨rfl, hE⟩
              exact ⟨_, rfl, ⟨hC.ext hE, RS.ext hE⟩, rfl⟩
            simp only [List.nil_append, List.cons_append]
            repeat
              (apply tame_q rfl
               (intro ρ W hC hr hD
                obtain ⟨hrc, hrg, hrf, hrs⟩ := hr
                simp [go_sem] at hD
                go_simp
                first | exact ⟨⟨hC, RS.refl _⟩, rfl⟩ | exact rfl)
               simp only [List.nil_append, List.cons_append])
            apply tame_n (fun _ W => Blk W (w.heap.size + 1) 166 #[.int .i64 b.id, .int .i64 b.layers, .int .i64 b.dry.lo, .int .i64 b.dry.hi, .slice A n cp, .slice A2 n2 cp2, .slice As kk cs, .slice Al (driesTo b k2).length cl]) (fun _ W W' _ hR h => hR.2 h)
            · intro ρ W hC hr hD
              obtain ⟨hrc, hrg, hrf, hrs⟩ := hr
              simp [go_sem] at hD
              obtain ⟨hg1, cs0, hB, hsz⟩ := hC
              obtain ⟨cs0⟩ := cs0
              obtain ⟨x0, x1, x2, x3, x4, x5, x6, x7, rfl⟩ : ∃ x0 x1 x2 x3 x4 x5 x6 x7, cs0 = [x0, x1, x2, x3, x4, x5, x6, x7] := by
                match cs0, hsz with
                | [x0, x1, x2, x3, x4, x5, x6, x7], _ => exact ⟨_, _, _, _, _, _, _, _, rfl⟩
              have b0 := hB.cell 0
              have b1 := hB.cell 1
              have b2 := hB.cell 2
              have b3 := hB.cell 3
              have b4 := hB.cell 4
              have b5 := hB.cell 5
              have b6 := hB.cell 6
              have b7 := hB.cell 7
              have bf := hB.frozen
              have HB := Lib.hid hB; have HG1 := Lib.hid hg1; clear hB hg1
              simp at b0 b1 b2 b3 b4 b5 b6 b7
              go_simp
              exact store8 HG1.out HB.out _ _ _ _ _ _ _ _
            simp only [List.nil_append, List.cons_append]
            repeat
              (apply tame_q rfl
               (intro ρ W hC hr hD
                obtain ⟨hrc, hrg, hrf, hrs⟩ := hr
                simp [go_sem] at hD
                go_simp
                first | exact ⟨⟨hC, RS.refl _⟩, rfl⟩ | exact rfl)
               simp only [List.nil_append, List.cons_append])
            refine tame_end 105 rfl rfl (fun ρ W hC hr hF => ?_)
            obtain ⟨hrc, hrg, hrf, hrs⟩ := hr
            have hBF : Blk W (w.heap.size + 1) 166 #[.int .i64 b.id, .int .i64 b.layers, .int .i64 b.dry.lo, .int .i64 b.dry.hi, .slice A n cp, .slice A2 n2 cp2, .slice As kk cs, .slice Al (driesTo b k2).length cl] := hF.2.2.2.2.2.2.2.2.2.1
            have HBF := Lib.hid hBF; clear hBF
            simp [go_sem] at hF
            apply frame_to
            · go_simp
              exact rfl
            clear hF hrs hrc hrg hrf
            have HC := Lib.hid hC; clear hC
            clear c0 c1 c2 c3 c4 c5 c6 c7
            go_wp2
            rw [Exit.noGoto_ret]
            have B0 := HBF.out.cell 0
            have B1 := HBF.out.cell 1
            have B2 := HBF.out.cell 2
            have B3 := HBF.out.cell 3
            have B4 := HBF.out.cell 4
            have B5 := HBF.out.cell 5
            have B6 := HBF.out.cell 6
            have B7 := HBF.out.cell 7
            simp at B0 B1 B2 B3 B4 B5 B6 B7
            refine bodyPost_ret (v := .tuple #[valP b (.slice A n cp) (.slice A2 n2 cp2) (.slice As kk cs) (.slice Al (driesTo b k2).length cl), .bool (okB b)]) (by
              have hlb : okB b = (grown (spans b) && decide (0 < (driesTo b k2).length)) := by
                unfold okB; rw [HDR.out]; cases dries b <;> simp
              rw [HGR.out] at hlb
              simp [results, Tryz.results134, go_sem, hlb, B0, B1, B2, B3, B4, B5, B6, B7]) rfl ?_
            have hkk := HK.out W HC.out
            exact OpenedPost.of rfl hkk.2.2.1 hkk.2.2.2 ⟨HC.out.1.os.trans EW2.out.os, HC.out.1.tape.trans EW2.out.tape, HC.out.1.output.trans EW2.out.output, Nat.le_trans EW2.out.size HC.out.1.size, fun k hk => (HC.out.1.block k (Nat.lt_of_lt_of_le hk EW2.out.size) (by intro h; injection h with h; omega)).trans (EW2.out.block k hk)⟩
end Go.Proofs.YtkpengeaolcjhaaGreatDoor
/- core.asked, Can, Layer, ends, Best, Worst. -/
namespace Go.Proofs.YtkpengeaolcjhaaGreatDoor
open Go.RowKit Go.Shelf
set_option maxRecDepth 100000

def askE (b : Bale) (r : Bool) (e : Int) : Int := if valid b then (if r then (if okB b then 0 else 8) else e) else 30
abbrev zP : Value := .agg #[.int .i64 0, .int .i64 0, .int .i64 0, .int .i64 0, .slice none 0 0, .slice none 0 0, .slice none 0 0, .slice none 0 0]
/-- What a press that is asked for holds. -/
def AskedPost (b : Bale) (dv wv : Value) (E : Int) (w : World) (e : Ending) (w' : World) : Prop :=
  ∃ pv, e = .returned (.tuple #[pv, .int .i64 E]) ∧ (E = 0 → ∃ sv lv, pv = valP b dv wv sv lv ∧ SlS w' sv (spans b) ∧ SlI w' lv (dries b)) ∧ (E ≠ 0 → pv = zP) ∧ Ext w w'
theorem AskedPost.bad {b : Bale} {dv wv : Value} {E E' : Int} {w w' : World} (hE : E' = E) (h0 : E ≠ 0) (h : Ext w w') : AskedPost b dv wv E w (.returned (.tuple #[zP, .int .i64 E'])) w' := by
  subst hE
  exact ⟨_, rfl, fun h => absurd h h0, fun _ => rfl, h⟩

theorem ret_set8 {P : Program} {fn : Func} {R : Ending → World → Prop} {ex : Exit} {a : Act} {w1 : World} {g : Nat} {t : TypeId} {x0 x1 x2 x3 x4 x5 x6 x7 y0 y1 y2 y3 y4 y5 y6 y7 : Value} (hB : Blk w1 g t #[x0, x1, x2, x3, x4, x5, x6, x7])
    (h : ∀ W, (W.cell? ⟨g, 0, none⟩ = some y0 ∧ W.cell? ⟨g, 1, none⟩ = some y1 ∧ W.cell? ⟨g, 2, none⟩ = some y2 ∧ W.cell? ⟨g, 3, none⟩ = some y3 ∧ W.cell? ⟨g, 4, none⟩ = some y4 ∧ W.cell? ⟨g, 5, none⟩ = some y5 ∧ W.cell? ⟨g, 6, none⟩ = some y6 ∧ W.cell? ⟨g, 7, none⟩ = some y7) → w1.grownBy W (some g) → bodyPost P fn R ex a W) :
    bodyPost P fn R ex a (set8 w1 g y0 y1 y2 y3 y4 y5 y6 y7) :=
  have H := hB.set8 y0 y1 y2 y3 y4 y5 y6 y7
  h _ ⟨H.cell 0, H.cell 1, H.cell 2, H.cell 3, H.cell 4, H.cell 5, H.cell 6, H.cell 7⟩ (grown_set8 (World.grownBy.refl _ _) ..)
theorem ret_set8a {P : Program} {fn : Func} {R : Ending → World → Prop} {ex : Exit} {a : Act} {w1 : World} {g : Nat} {t : TypeId} {x0 x1 x2 x3 x4 x5 x6 x7 y0 y1 y2 y3 y4 y5 y6 y7 : Value} {o : Obj} (hB : Blk w1 g t #[x0, x1, x2, x3, x4, x5, x6, x7])
    (h : ∀ W, (W.cell? ⟨g, 0, none⟩ = some y0 ∧ W.cell? ⟨g, 1, none⟩ = some y1 ∧ W.cell? ⟨g, 2, none⟩ = some y2 ∧ W.cell? ⟨g, 3, none⟩ = some y3 ∧ W.cell? ⟨g, 4, none⟩ = some y4 ∧ W.cell? ⟨g, 5, none⟩ = some y5 ∧ W.cell? ⟨g, 6, none⟩ = some y6 ∧ W.cell? ⟨g, 7, none⟩ = some y7) → w1.grownBy W (some g) → bodyPost P fn R ex a W) :
    bodyPost P fn R ex a ((set8 w1 g y0 y1 y2 y3 y4 y5 y6 y7).alloc o) :=
  have H := (hB.set8 y0 y1 y2 y3 y4 y5 y6 y7).alloc o
  h _ ⟨H.cell 0, H.cell 1, H.cell 2, H.cell 3, H.cell 4, H.cell 5, H.cell 6, H.cell 7⟩ (grown_ext (grown_set8 (World.grownBy.refl _ _) ..) (Ext.al _ _))
theorem ext_grown {w w1 W : World} {g : Nat} (h : Ext w w1) (k : w1.grownBy W (some g)) (hg : w.heap.size ≤ g) : Ext w W :=
  ⟨k.os.trans h.os, k.tape.trans h.tape, k.output.trans h.output, Nat.le_trans h.size k.size, fun i hi => (k.block i (Nat.lt_of_lt_of_le hi h.size) (by intro e; injection e with e; omega)).trans (h.block i hi)⟩
theorem neq45f (w : World) (g : FuncId) (x y : Array Value) : (binOp .neq 45 (.func (.func g) x y) .nilFunc).run Tryz.prog w = .ok (.bool true) w := by kernel_rfl

set_option maxHeartbeats 1000000 in
theorem asked_fn (b : Bale) (dv wv : Value) (w : World) (g : FuncId) (cap : Array Value) (eg : ∀ args w, (callFunc g args).run Tryz.prog w = .ok (.enter g args) w) (r : Bool) (E0 : Int) (hE0 : E0 ≠ 0) (hr : valid b = true → ∀ W, Ext w W → Calls Tryz.prog g cap W fun e W' => e = .returned (.bool r) ∧ Ext W W') (hT : Tab w) (hd : SlD w dv b.draws) (hw : SlW w wv b.weighs) :
    Calls Tryz.prog 99 #[valB b dv wv, .func (.func g) #[] cap, .int .i64 E0] w (AskedPost b dv wv (askE b r E0) w) := by
  have HT := Lib.hid hT
  have HD := Lib.hid hd
  have HW := Lib.hid hw
  obtain ⟨A, n, cp, rfl, hn, hlc, hcm⟩ := hd.form
  obtain ⟨A2, n2, cp2, rfl, hn2, hlc2, hcm2⟩ := hw.form
  have HR := Lib.hid hr
  clear hd hw hT hr
  have nq := neq45f
  go_enter Tryz.func99, Tryz.ntmps99
  go_wp2_with fail
  refine (check_any b _ _ _ ((HT.out.ext (Ext.al _ _)).ext (Ext.al _ _)) ((HD.out.ext (Ext.al _ _)).ext (Ext.al _ _)) ((HW.out.ext (Ext.al _ _)).ext (Ext.al _ _))).mono ?_
  rintro e w1 ⟨rfl, hb⟩
  obtain ⟨hc, hf, hz, HE⟩ := hb.use
  cases hv : valid b with
  | false =>
    have HV := Lib.hid hv; clear hv
    go_wp2
    refine ret_set8 ((Blk.at_ (by simp)).ext HE.out) fun W ⟨b0, b1, b2, b3, b4, b5, b6, b7⟩ hW => ?_
    refine bodyPost_ret (v := .tuple #[zP, .int .i64 (errB false 30)]) (by simp [results, Tryz.results99, go_sem, b0, b1, b2, b3, b4, b5, b6, b7]) rfl ?_
    exact AskedPost.bad (by unfold askE errB; rw [HV.out]; rfl) (by unfold askE; rw [HV.out]; simp) (ext_grown (((Ext.al _ _).trans (Ext.al _ _)).trans HE.out) hW (by omega))
  | true =>
    have HV := Lib.hid hv; clear hv
    have HB := Lib.hid (valid_bds HV.out)
    obtain ⟨w0, hw0⟩ : ∃ w0 : World, w0 = w1 := ⟨_, rfl⟩
    subst hw0
    have hza : w.heap.size + 1 < w0.heap.size := by simp at hz; omega
    have hzb : w.heap.size < w0.heap.size := by omega
    have hcall := HR.out HV.out w0 (((Ext.al _ _).trans (Ext.al _ _)).trans HE.out)
    cases hrr : r with
    | false =>
      rw [hrr] at hcall
      have HC := Lib.hid hcall; clear hcall
      have HRR := Lib.hid hrr; clear hrr
      go_wp2_with (go_at_fn g; refine HC.out.mono ?_; rintro e w1 ⟨rfl, hb2⟩; obtain ⟨hc2, hf2, hz2, HE2⟩ := hb2.use)
      refine ret_set8 ((Blk.at_ (by simp)).ext (HE.out.trans HE2.out)) fun W ⟨b0, b1, b2, b3, b4, b5, b6, b7⟩ hW => ?_
      refine bodyPost_ret (v := .tuple #[zP, .int .i64 E0]) (by simp [results, Tryz.results99, go_sem, b0, b1, b2, b3, b4, b5, b6, b7]) rfl ?_
      exact AskedPost.bad (by unfold askE; rw [HV.out, HRR.out]; rfl) (by unfold askE; rw [HV.out, HRR.out]; simpa using hE0) (ext_grown (((Ext.al _ _).trans (Ext.al _ _)).trans (HE.out.trans HE2.out)) hW (by omega))
    | true =>
    rw [hrr] at hcall
    have HC := Lib.hid hcall; clear hcall
    have HRR := Lib.hid hrr; clear hrr
    go_wp2_with (go_at_fn g; refine HC.out.mono ?_; rintro e w1 ⟨rfl, hb2⟩; obtain ⟨hc2, hf2, hz2, HE2⟩ := hb2.use)
    have HE1 := Lib.hid (HE.out.trans HE2.out)
    clear HE HE2
    have HE := HE1; clear HE1
    have HDW := Lib.hid (show SlD w1 (.slice A n cp) b.draws ∧ SlW w1 (.slice A2 n2 cp2) b.weighs from ⟨((HD.out.ext (Ext.al _ _)).ext (Ext.al _ _)).ext HE.out, ((HW.out.ext (Ext.al _ _)).ext (Ext.al _ _)).ext HE.out⟩)
    refine (opened_any b _ _ _ HDW.out.1 HDW.out.2 HB.out.l1 HB.out.l5 HB.out.lo HB.out.lh HB.out.hi (fun x hx => by have := HB.out.w x hx; omega)).mono ?_
    rintro e w2 ⟨sv, lv, rfl, h1, h2, hE2⟩
    obtain ⟨As, ns, cs, rfl, hns, hsc, hsm⟩ := (show SlS w2 sv (spans b) from h1.sl (fun _ => rfl)).form
    obtain ⟨Al, nl, cl, rfl, hnl, hlc', hlm⟩ := (show SlI w2 lv (dries b) from h2.sl (fun _ => rfl)).form
    dsimp only [valP]
    have H1 := Lib.hid h1; have H2 := Lib.hid h2; clear h1 h2
    have HE3 := Lib.hid ((((Ext.al w _).trans (Ext.al _ _)).trans HE.out).trans hE2)
    have HBk := Lib.hid ((Blk.at_ (t := 166) (cs := #[.int .i64 0, .int .i64 0, .int .i64 0, .int .i64 0, .slice none 0 0, .slice none 0 0, .slice none 0 0, .slice none 0 0]) (w := w.alloc (.cells #[.int .i64 b.id, .int .i64 b.layers, .int .i64 b.dry.lo, .int .i64 b.dry.hi, .slice A n cp, .slice A2 n2 cp2] 61)) (g := w.heap.size + 1) (by simp)).ext (HE.out.trans hE2))
    clear hE2 hc hf hc2 hf2
    have hc0 := HBk.out.cell 0
    have hc1 := HBk.out.cell 1
    have hc2 := HBk.out.cell 2
    have hc3 := HBk.out.cell 3
    have hc4 := HBk.out.cell 4
    have hc5 := HBk.out.cell 5
    have hc6 := HBk.out.cell 6
    have hc7 := HBk.out.cell 7
    have hfr := HBk.out.frozen
    have hlt := HBk.out.lt
    simp at hc0 hc1 hc2 hc3 hc4 hc5 hc6 hc7
    cases ho : okB b with
    | false =>
      have HO := Lib.hid ho; clear ho
      go_wp2
      refine ret_set8a HBk.out fun W ⟨b0, b1, b2, b3, b4, b5, b6, b7⟩ hW => ?_
      refine bodyPost_ret (v := .tuple #[zP, .int .i64 8]) (by simp [results, Tryz.results99, go_sem, b0, b1, b2, b3, b4, b5, b6, b7]) rfl ?_
      exact AskedPost.bad (by unfold askE; rw [HV.out, HRR.out, HO.out]; rfl) (by unfold askE; rw [HV.out, HRR.out, HO.out]; simp) (ext_grown HE3.out hW (by omega))
    | true =>
      have HO := Lib.hid ho; clear ho
      go_wp2
      refine ret_set8a HBk.out fun W ⟨b0, b1, b2, b3, b4, b5, b6, b7⟩ hW => ?_
      refine bodyPost_ret (v := .tuple #[valP b (.slice A n cp) (.slice A2 n2 cp2) (.slice As ns cs) (.slice Al nl cl), .int .i64 0]) (by simp [results, Tryz.results99, go_sem, b0, b1, b2, b3, b4, b5, b6, b7]) rfl ?_
      refine ⟨_, by unfold askE; rw [HV.out, HRR.out, HO.out]; rfl, fun _ => ⟨_, _, rfl, ?_, ?_⟩, fun h => absurd (by unfold askE; rw [HV.out, HRR.out, HO.out]; rfl) h, ext_grown HE3.out hW (by omega)⟩
      · exact Sl.of_own (fun _ => rfl) (own_kept H1.out hW (by omega))
      · exact Sl.of_own (fun _ => rfl) (own_kept H2.out hW (by omega))
end Go.Proofs.YtkpengeaolcjhaaGreatDoor
/- The end of a region that drew its order: the frame that came in, the region's own slots put in. -/
namespace Go.Proofs.YtkpengeaolcjhaaGreatDoor
open Go.RowKit Go.Shelf

/-- The frame l with what ρ gives put into the slots of F. -/
def putF (ρ : Operand → Value) : Facts → List Value → List Value
  | [], l => l
  | (some d, _) :: F, l => putF ρ F (l.set d (ρ (.tmp d)))
  | (none, _) :: F, l => putF ρ F l
theorem putF_len (ρ : Operand → Value) : ∀ (F : Facts) (l : List Value), (putF ρ F l).length = l.length
  | [], l => rfl
  | (some d, _) :: F, l => by rw [putF, putF_len ρ F, List.length_set]
  | (none, _) :: F, l => by rw [putF, putF_len ρ F]
theorem putF_in (ρ : Operand → Value) : ∀ (F : Facts) (l : List Value) (j : Nat), j < l.length → (some j ∈ F.map (·.1) ∨ l[j]? = some (ρ (.tmp j))) → (putF ρ F l)[j]? = some (ρ (.tmp j))
  | [], l, j, _, h => by rw [putF]; simpa using h
  | (some d, U) :: F, l, j, hj, h => by
    rw [putF]
    refine putF_in ρ F _ j (by rw [List.length_set]; exact hj) ?_
    by_cases e : d = j
    · subst e
      right
      rw [List.getElem?_set_self hj]
    · rcases h with h | h
      · rw [List.map_cons, List.mem_cons] at h
        rcases h with h | h
        · injection h with h
          exact absurd h.symm e
        · exact .inl h
      · right
        rw [List.getElem?_set_ne e]
        exact h
  | (none, U) :: F, l, j, hj, h => by
    rw [putF]
    refine putF_in ρ F _ j hj ?_
    rcases h with h | h
    · rw [List.map_cons, List.mem_cons] at h
      rcases h with h | h
      · cases h
      · exact .inl h
    · exact .inr h
section
variable {P : Program} {C : World → Prop} {R : World → World → Prop} {a0 : Act} {ds : List (Option Tmp)} {Q : Act → World → Prop} {n : Nat} {F : Facts}
theorem tame_end_put (hds : F.map (·.1) = ds) (hn : n = F.length) (h : ∀ ρ W, C W → Rd a0 ds ρ → allF F ρ W → Q { tmps := (putF ρ F a0.tmps.toList).toArray, defers := a0.defers } W) : wpTame P C R ds a0 Q n [] F := by
  intro A W hC hS hF
  have hA : A = { tmps := (putF A.eval F a0.tmps.toList).toArray, defers := a0.defers } := by
    obtain ⟨h1, h2, h3⟩ := hS
    obtain ⟨tmps, defers⟩ := A
    simp only at h1 h2
    subst h1
    congr 1
    apply Array.ext_getElem?
    intro j
    by_cases hj : j < tmps.size
    · have e : (Act.mk tmps a0.defers).eval (.tmp j) = tmps[j] := by simp [Act.eval, hj]
      have hp : (putF (Act.mk tmps a0.defers).eval F a0.tmps.toList).toArray[j]? = some tmps[j] := by
        rw [List.getElem?_toArray, putF_in _ F _ j (by simpa using h2 ▸ hj), e]
        by_cases hm : some j ∈ F.map (·.1)
        · exact .inl hm
        · right
          have hni : notIn ds j = true := by
            unfold notIn
            rw [List.all_eq_true]
            intro d hd
            rw [← hds] at hd
            simp only [bne_iff_ne, ne_eq]
            intro e2
            exact hm (e2 ▸ hd)
          rw [h3 j hni]
          have hj2 : j < a0.tmps.size := h2 ▸ hj
          simp [Act.eval, hj2]
      rw [hp]; simp [hj]
    · rw [Array.getElem?_eq_none (by omega), List.getElem?_toArray, List.getElem?_eq_none (by rw [putF_len]; simp; omega)]
  rw [hA]
  exact h A.eval W hC (Rd.of hS) (allF_of _ _ _ (hn ▸ hF))
end
end Go.Proofs.YtkpengeaolcjhaaGreatDoor
/- A region that draws its order and ends in operations that each stand behind all before them: these are walked by themselves, in the order of the text. -/
namespace Go.Proofs.YtkpengeaolcjhaaGreatDoor
open Go.RowKit Go.Shelf

def nestQ (P : Program) : List Oper → (Exit → Act → World → Prop) → (Exit → Act → World → Prop)
  | [], Q => Q
  | o :: r, Q => lastQ P o (nestQ P r Q)
theorem wp_nest {P : Program} {o : Oper} {a : Act} {w : World} {K : Act → World → Prop} : ∀ (r : List Oper) {Q : Exit → Act → World → Prop}, o.wp P a w K Q → o.wp P a w K (nestQ P r Q)
  | [], _, h => h
  | _ :: r, _, h => wp_lastQ' (wp_nest r h)
theorem lets_nest {P : Program} : ∀ (r : List Oper) {Q : Exit → Act → World → Prop}, LetsOut Q → LetsOut (nestQ P r Q)
  | [], _, h => h
  | _ :: r, _, h => lets_nest r h
theorem nest_of {P : Program} {ops : Array Oper} : ∀ (r : List Oper) {Q : Exit → Act → World → Prop} {A : Act} {W : World}, (∀ o ∈ r, o.guard = none) → wpList P ops Q r A W → nestQ P r Q .normal A W
  | [], _, _, _, _, h => h
  | o :: r, Q, A, W, hg, h => by
    have hw : Region.wanted o (yielded ops A.tmps) = true := by simp [Region.wanted, hg o (List.mem_cons_self ..)]
    simp only [wpList, hw, if_true] at h
    show lastQ P o (nestQ P r Q) .normal A W
    rcases h with h | ⟨h1, h2⟩
    · exact .inl (wp_nest r (Oper.wp_mono (fun A' W' h'' => nest_of r (fun o' ho' => hg o' (List.mem_cons_of_mem _ ho')) h'') h))
    · exact .inr ⟨h1, lets_nest r h2⟩
def cutkB (n : Nat) : List Oper → List Oper → Bool
  | _, [] => true
  | l, o :: r => (tameB (l ++ [o]) n && lastB (l ++ [o])) && (o.guard.isNone && cutkB n (l ++ [o]) r)
theorem any_nest {P : Program} {n : Nat} : ∀ (r l : List Oper) {Q : Exit → Act → World → Prop} {fuel : Nat} {A : Act} {W : World}, cutkB n l r = true → wpAny P .any l.toArray (nestQ P r Q) fuel (Array.replicate l.length false) A W →
    wpAny P .any (l ++ r).toArray Q (fuel + r.length) (Array.replicate (l.length + r.length) false) A W
  | [], l, Q, fuel, A, W, _, h => by simpa [nestQ] using h
  | o :: r, l, Q, fuel, A, W, hc, h => by
    unfold cutkB at hc
    simp only [Bool.and_eq_true, Option.isNone_iff_eq_none] at hc
    obtain ⟨⟨h1, h2⟩, h3, h4⟩ := hc
    have h5 := tame_lastL (P := P) (Q := nestQ P r Q) (tame_back h1) h2 h3 _ _ _ _ (by simp) (by
      intro j o' ho hj
      have : (Array.replicate l.length false).getD j false = false := by
        rw [Array.getD_eq_getD_getElem?, Array.getElem?_replicate]; split <;> rfl
      rw [this] at hj
      cases hj) h
    rw [← Array.replicate_succ] at h5
    have h6 := any_nest r (l ++ [o]) h4 (by simpa using h5)
    simpa [Nat.add_assoc, Nat.add_comm, Nat.add_left_comm] using h6

theorem wp_region_tame_cutk {P : Program} {id : Nat} {Q : Exit → Act → World → Prop} {w : World} {a0 : Act} {l : List Oper} (C : World → Prop) (R : World → World → Prop) (hm : P.follows .mixedOrders = true) (n : Nat) (hn : a0.tmps.size = n) (k : Nat)
    (hB' : tameB (l.take k) n = true) (hcut : cutkB n (l.take k) (l.drop k) = true) (hg : (l.drop k).all (fun o => o.guard.isNone) = true) (hC : C w.drew)
    (h : wpTame P C R ((l.take k).map (·.dst)) a0 (fun A W => wpList P l.toArray Q (l.drop k) A W) (l.take k).length (l.take k) []) : (Code.region id l.toArray true).wp P Q a0 w := by
  subst hn
  obtain ⟨G, hlen, _, hfin, hops⟩ := wpTame_facts (l.take k) [] h
  have hg' : ∀ o ∈ l.drop k, o.guard = none := fun o ho => by
    have := List.all_eq_true.1 hg o ho
    simpa using this
  have hfin' : ∀ A W, C W → Same0 ((l.take k).map (·.dst)) a0 A → (∀ j, j < (l.take k).length → Fact G A.eval W j) → nestQ P (l.drop k) Q .normal A W := by
    intro A W c s f
    exact nest_of _ hg' (hfin A W c s (by simpa using f))
  have h1 := tame_any (Q := nestQ P (l.drop k) Q) (Qn := fun A W => nestQ P (l.drop k) Q .normal A W) (fun _ _ h => h) hB' G (by simpa using hlen) hfin' (by simpa using hops) (l.take k).length (Array.replicate (l.take k).length false) a0 w.drew (by simp)
    (Nat.le_trans (List.length_filter_le _ _) (by simp)) hC ⟨rfl, rfl, fun _ _ => rfl⟩ (by
      intro j hj
      have : (Array.replicate (l.take k).length false).getD j false = false := by
        rw [Array.getD_eq_getD_getElem?, Array.getElem?_replicate]; split <;> rfl
      rw [this] at hj
      cases hj)
  refine wp_region_any hm ?_
  have h2 := any_nest (P := P) (n := a0.tmps.size) (l.drop k) (l.take k) (Q := Q) hcut h1
  rw [List.take_append_drop] at h2
  have e1 : (l.take k).length + (l.drop k).length = l.toArray.size := by rw [← List.length_append, List.take_append_drop]; simp
  rw [e1] at h2
  exact h2
end Go.Proofs.YtkpengeaolcjhaaGreatDoor
/- A region that draws its order, with a word on what is done, on the temporaries and on the world together. -/
namespace Go.Proofs.YtkpengeaolcjhaaGreatDoor
open Go.RowKit Go.Shelf

def updD {α : Type} (f : Nat → α) (i : Nat) (v : α) : Nat → α := fun j => if j = i then v else f j
theorem updD_self {α : Type} (f : Nat → α) (i : Nat) (v : α) : updD f i v i = v := if_pos rfl
theorem updD_ne {α : Type} {f : Nat → α} {i j : Nat} {v : α} (h : j ≠ i) : updD f i v j = f j := if_neg h
def updDO (f : Nat → Value) (d : Option Tmp) (v : Value) : Nat → Value := match d with | some d => updD f d v | none => f
def evT (A : Act) : Nat → Value := fun t => A.eval (.tmp t)
theorem evT_put {A : Act} {d : Option Tmp} (h : ∀ t, d = some t → t < A.tmps.size) (v : Value) : evT (A.put d v) = updDO (evT A) d v := by
  funext t
  cases d with
  | none => rfl
  | some d =>
    show (A.put (some d) v).eval (.tmp t) = if t = d then v else A.eval (.tmp t)
    by_cases e : t = d
    · subst e; rw [if_pos rfl]; exact eval_put_self (h t rfl)
    · rw [if_neg e]; exact eval_put_ne fun e' => e e'.symm
section
variable {P : Program} {C : World → Prop} {R : World → World → Prop} {a0 : Act} {l : List Oper}

variable {ds : List (Option Tmp)} {Q : Act → World → Prop} {I : (Nat → Bool) → (Nat → Value) → World → Prop} {n : Nat} {o : Oper} {rest : List Oper} {F : Facts}
theorem opGives_monoD {ρ : Operand → Value} {W : World} {U U' : Value → World → Prop} (h : opGives P C R o ρ W U) (k : ∀ v W', CR C R W W' → U v W' → U' v W') : opGives P C R o ρ W U' := by
  unfold opGives opPost at h ⊢
  generalize (execOp ρ o).run P W = r at h ⊢
  cases r with
  | halt x w' => exact h
  | ok nx w' =>
    cases nx with
    | value v => exact ⟨h.1, k v w' h.1 h.2⟩
    | skip => exact ⟨h.1, k undef w' h.1 h.2⟩
    | enter f args =>
      refine Calls.mono (R' := _) h ?_
      rintro e w'' ⟨v, rfl, h1, h2⟩
      exact ⟨v, rfl, h1, k v w'' h1 h2⟩
    | _ => exact h
end
end Go.Proofs.YtkpengeaolcjhaaGreatDoor
/- A region that draws its order, with a word on what is done (as TameD), where operations may be guarded: so a slot may be read ahead of the operation that writes it. -/
namespace Go.Proofs.YtkpengeaolcjhaaGreatDoor
open Go.RowKit Go.Shelf

/-- The walk, in the order of the text. -/
def wpTameG (P : Program) (C : World → Prop) (R : World → World → Prop) (I : (Nat → Bool) → (Nat → Value) → World → Prop) (ds : List (Option Tmp)) (a0 : Act) (Q : Act → World → Prop) (n : Nat) : List Oper → Facts → Prop
  | [], F => ∀ A W, C W → Same0 ds a0 A → I (fun j => decide (j < n)) (evT A) W → (∀ j, j < n → Fact F A.eval W j) → Q A W
  | o :: rest, F => ∃ U : Value → World → Prop, (∀ v W W', C W' → R W W' → U v W → U v W') ∧
      (∀ L A W, C W → Same0 ds a0 A → I L (evT A) W → L F.length = false → (∀ e ∈ o.after, Region.binds .any e = true → L e.on = true) → (∀ e ∈ o.after, Region.binds .any e = true → Fact F A.eval W e.on) →
        if runs F A.eval o.guard then opGives P C R o A.eval W (fun v W' => U (if o.dst.isSome then v else undef) W' ∧ I (updD L F.length true) (updDO (evT A) o.dst v) W') else U undef W ∧ I (updD L F.length true) (updDO (evT A) o.dst undef) W) ∧
      wpTameG P C R I ds a0 Q n rest (F ++ [(o.dst, U)])
theorem wpTameG_facts {P : Program} {C : World → Prop} {R : World → World → Prop} {ds : List (Option Tmp)} {a0 : Act} {Q : Act → World → Prop} {n : Nat} {I : (Nat → Bool) → (Nat → Value) → World → Prop} : ∀ (l : List Oper) (F : Facts), wpTameG P C R I ds a0 Q n l F →
    ∃ G : Facts, G.length = F.length + l.length ∧ (∀ j, j < F.length → G[j]? = F[j]?) ∧ (∀ A W, C W → Same0 ds a0 A → I (fun j => decide (j < n)) (evT A) W → (∀ j, j < n → Fact G A.eval W j) → Q A W) ∧
      ∀ i o, l[i]? = some o → ∃ U, G[F.length + i]? = some (o.dst, U) ∧ (∀ v W W', C W' → R W W' → U v W → U v W') ∧
        (∀ L A W, C W → Same0 ds a0 A → I L (evT A) W → L (F.length + i) = false → (∀ e ∈ o.after, Region.binds .any e = true → L e.on = true) → (∀ e ∈ o.after, Region.binds .any e = true → Fact (G.take (F.length + i)) A.eval W e.on) →
          if runs (G.take (F.length + i)) A.eval o.guard then opGives P C R o A.eval W (fun v W' => U (if o.dst.isSome then v else undef) W' ∧ I (updD L (F.length + i) true) (updDO (evT A) o.dst v) W') else U undef W ∧ I (updD L (F.length + i) true) (updDO (evT A) o.dst undef) W)
  | [], F, h => ⟨F, by simp, fun _ _ => rfl, h, fun i o hi => by simp at hi⟩
  | o :: rest, F, h => by
    obtain ⟨U, hst, hstep, hrest⟩ := h
    obtain ⟨G, hlen, hpre, hfin, hops⟩ := wpTameG_facts rest (F ++ [(o.dst, U)]) hrest
    have hF : G.take F.length = F := by
      apply List.ext_getElem?
      intro j
      rw [List.getElem?_take]
      by_cases hj : j < F.length
      · rw [if_pos hj, hpre j (by simp; omega), List.getElem?_append_left hj]
      · rw [if_neg hj, List.getElem?_eq_none (by omega)]
    refine ⟨G, by rw [hlen]; simp; omega, fun j hj => by rw [hpre j (by simp; omega), List.getElem?_append_left hj], hfin, fun i o' hi => ?_⟩
    cases i with
    | zero =>
      simp at hi; subst hi
      refine ⟨U, ?_, hst, ?_⟩
      · rw [Nat.add_zero, hpre F.length (by simp)]; simp
      · rw [Nat.add_zero, hF]; exact hstep
    | succ i =>
      obtain ⟨U', h1, h2, h3⟩ := hops i o' (by simpa using hi)
      have e : (F ++ [(o.dst, U)]).length + i = F.length + (i + 1) := by simp; omega
      rw [e] at h1 h3
      exact ⟨U', h1, h2, h3⟩


section
variable {P : Program} {C : World → Prop} {R : World → World → Prop} {a0 : Act} {l : List Oper}

theorem tame_anyG {I : (Nat → Bool) → (Nat → Value) → World → Prop} {Q : Exit → Act → World → Prop} {Qn : Act → World → Prop} (hQ : ∀ A W, Qn A W → Q .normal A W) (hB : tameB l a0.tmps.size = true) (G : Facts) (hlen : G.length = l.length)
    (hfin : ∀ A W, C W → Same0 (l.map (·.dst)) a0 A → I (fun j => decide (j < l.length)) (evT A) W → (∀ j, j < l.length → Fact G A.eval W j) → Qn A W)
    (hops : ∀ i o, l[i]? = some o → ∃ U, G[i]? = some (o.dst, U) ∧ (∀ v W W', C W' → R W W' → U v W → U v W') ∧
        (∀ L A W, C W → Same0 (l.map (·.dst)) a0 A → I L (evT A) W → L i = false → (∀ e ∈ o.after, Region.binds .any e = true → L e.on = true) → (∀ e ∈ o.after, Region.binds .any e = true → Fact (G.take i) A.eval W e.on) → if runs (G.take i) A.eval o.guard then opGives P C R o A.eval W (fun v W' => U (if o.dst.isSome then v else undef) W' ∧ I (updD L i true) (updDO (evT A) o.dst v) W') else U undef W ∧ I (updD L i true) (updDO (evT A) o.dst undef) W)) :
    ∀ (fuel : Nat) (listed : Array Bool) (A : Act) (W : World), listed.size = l.length → ((List.range l.length).filter fun j => !listed.getD j true).length ≤ fuel → C W → Same0 (l.map (·.dst)) a0 A → I (fun j => listed.getD j false) (evT A) W →
      (∀ j, listed.getD j false = true → Fact G A.eval W j) → wpAny P .any l.toArray Q fuel listed A W := by
  have hB' := hB
  unfold tameB at hB'
  rw [Bool.and_eq_true, List.all_eq_true, List.all_eq_true] at hB'
  obtain ⟨hb1, hb2⟩ := hB'
  have hback : ∀ (i : Nat) (o : Oper), l[i]? = some o → (∀ e ∈ o.after, Region.binds .any e = true → e.on < i) ∧ (∀ d, o.dst = some d → d < a0.tmps.size) ∧ (∀ (j : Nat) (b : Bool), o.guard = some (j, b) → j < i ∧ ∃ e ∈ o.after, e.on = j ∧ Region.binds .any e = true) := by
    intro i o hi
    have h := hb1 (o, i) (by rw [List.mem_zipIdx_iff_getElem?]; simpa using hi)
    simp only [Bool.and_eq_true] at h
    obtain ⟨⟨h1, h2⟩, h3⟩ := h
    refine ⟨fun e he hbd => ?_, fun d hd => ?_, fun j b hg => ?_⟩
    · rw [List.all_eq_true] at h1
      have := h1 e (Array.mem_toList_iff.2 he)
      simpa [hbd] using this
    · rw [hd] at h2; simpa using h2
    · rw [hg] at h3
      simp only [Bool.and_eq_true, decide_eq_true_eq] at h3
      refine ⟨h3.1, ?_⟩
      obtain ⟨_, h3⟩ := h3
      rw [List.any_eq_true] at h3
      obtain ⟨e, he, h4⟩ := h3
      exact ⟨e, Array.mem_toList_iff.1 he, by simpa using h4⟩
  have hdist : ∀ (i j : Nat) (o p : Oper) (d : Tmp), l[i]? = some o → l[j]? = some p → o.dst = some d → i ≠ j → p.dst ≠ some d := by
    intro i j o p d hi hj hd hne
    have h := hb2 (o, i) (by rw [List.mem_zipIdx_iff_getElem?]; simpa using hi)
    simp only [hd] at h
    rw [List.all_eq_true] at h
    have := h (p, j) (by rw [List.mem_zipIdx_iff_getElem?]; simpa using hj)
    simpa [hne] using this
  have hall : ∀ (listed : Array Bool) (A : Act) (W : World), listed.size = l.length → C W → Same0 (l.map (·.dst)) a0 A → I (fun j => listed.getD j false) (evT A) W → (∀ j, listed.getD j false = true → Fact G A.eval W j) → Region.ready .any l.toArray listed = [] → Q .normal A W := by
    intro listed A W hs hC hS hIA hF hr
    suffices key : ∀ k, k < l.length → listed.getD k false = true by
      refine hQ _ _ (hfin A W hC hS ?_ fun j hj => hF j (key j hj))
      have e : (fun j => listed.getD j false) = fun j => decide (j < l.length) := by
        funext j
        by_cases hj : j < l.length
        · rw [key j hj, decide_eq_true hj]
        · rw [decide_eq_false hj, Array.getD_eq_getD_getElem?, Array.getElem?_eq_none (by omega)]; rfl
      rw [e] at hIA
      exact hIA
    -- the least one that is not listed would be ready
    · intro k
      induction k using Nat.strongRecOn with
      | _ k ih =>
        intro hk
        cases hv : listed.getD k false with
        | true => rfl
        | false =>
          exfalso
          have hmem : k ∈ Region.ready .any l.toArray listed := by
            rw [mem_ready]
            have hkl : k < listed.size := by omega
            refine ⟨by simpa [Array.getD_eq_getD_getElem?, hkl] using hv, l[k], by simp, fun e he hb => ?_⟩
            have := (hback k _ (List.getElem?_eq_getElem hk)).1 e he hb
            exact ih e.on this (by omega)
          rw [hr] at hmem
          cases hmem
  intro fuel
  induction fuel with
  | zero =>
    intro listed A W hs hcount hC hS hIA hF
    have hr : Region.ready .any l.toArray listed = [] := by
      rw [List.eq_nil_iff_forall_not_mem]
      intro k hk
      rw [mem_ready] at hk
      obtain ⟨h0, o, ho, _⟩ := hk
      have hkl : k < l.length := by simpa using (Array.getElem?_eq_some_iff.1 ho).1
      have : k ∈ (List.range l.length).filter fun j => !listed.getD j true := by simp [hkl]; simpa using h0
      have := List.length_pos_of_mem this
      omega
    exact ⟨hr, hall listed A W hs hC hS hIA hF hr⟩
  | succ fuel ih =>
    intro listed A W hs hcount hC hS hIA hF
    refine ⟨hall listed A W hs hC hS hIA hF, fun i hi => ?_⟩
    rw [mem_ready] at hi
    obtain ⟨h0, o, ho, hdeps⟩ := hi
    have hil : i < l.length := by simpa using (Array.getElem?_eq_some_iff.1 ho).1
    have hlo : l[i]? = some o := by simpa using ho
    obtain ⟨U, hU, hst, hstep⟩ := hops i o hlo
    obtain ⟨hb, hdb, hgb⟩ := hback i o hlo
    have htake : ∀ j, j < i → Fact (G.take i) A.eval W j = Fact G A.eval W j := fun j hj => by
      unfold Fact; rw [List.getElem?_take, if_pos hj]
    have h0' : listed.getD i false = false := by
      have : i < listed.size := by omega
      simpa [Array.getD_eq_getD_getElem?, this] using h0
    have hstep' := hstep _ A W hC hS hIA h0' (fun e he hbd => hdeps e he hbd) (fun e he hbd => by rw [htake e.on (hb e he hbd)]; exact hF e.on (hdeps e he hbd))
    have hrun : Region.wanted o (yielded l.toArray A.tmps) = runs (G.take i) A.eval o.guard := by
      unfold Region.wanted runs
      cases hg : o.guard with
      | none => rfl
      | some jb =>
        obtain ⟨j, b⟩ := jb
        obtain ⟨hj, _⟩ := hgb j b hg
        have hjl : j < l.length := by omega
        obtain ⟨Uj, hUj, _⟩ := hops j l[j] (List.getElem?_eq_getElem hjl)
        simp only [List.getElem?_take, if_pos hj, hUj]
        cases hd : (l[j]).dst with
        | none =>
          simp only [yielded]
          simp [List.getElem?_eq_getElem hjl, hd]
        | some d => exact yielded_isB (by simp) hd b
    -- what stands behind the operation
    have hnext : ∀ (v : Value) (W' : World), C W' → I (updD (fun j => listed.getD j false) i true) (updDO (evT A) o.dst v) W' → (∀ j d V, G[j]? = some (d, V) → listed.getD j false = true → ∀ u, V u W → V u W') → U (if o.dst.isSome then v else undef) W' →
        wpAny P .any l.toArray Q fuel (listed.setIfInBounds i true) (A.put o.dst v) W' := by
      intro v W' hC' hI' hkeep hUv
      refine ih _ _ _ (by simpa using hs) ?_ hC' (same0_put hS (by rw [List.mem_map]; exact ⟨o, List.mem_of_getElem? hlo, rfl⟩) v) ?_ ?_
      · have hsub : ((List.range l.length).filter fun j => !(listed.setIfInBounds i true).getD j true).length < ((List.range l.length).filter fun j => !listed.getD j true).length := by
          have h1 : (List.range l.length).filter (fun j => !(listed.setIfInBounds i true).getD j true) = ((List.range l.length).filter fun j => !listed.getD j true).filter (fun j => j != i) := by
            rw [List.filter_filter]
            refine List.filter_congr fun j hj => ?_
            by_cases hji : j = i
            · subst hji
              simp [Array.getD_eq_getD_getElem?, show j < listed.size by omega]
            · rw [getD_set_ne true (Ne.symm hji)]; simp [hji]
          rw [h1]
          have hmem : i ∈ (List.range l.length).filter fun j => !listed.getD j true := by simp [hil]; simpa using h0
          refine Nat.lt_of_le_of_ne (List.length_filter_le _ _) fun he => ?_
          have := (List.length_filter_eq_length_iff.1 he) i hmem
          simp at this
        omega
      · have e1 : (fun j => (listed.setIfInBounds i true).getD j false) = updD (fun j => listed.getD j false) i true := by
          funext j
          unfold updD
          by_cases hji : j = i
          · subst hji; rw [if_pos rfl, Array.getD_eq_getD_getElem?, Array.getElem?_setIfInBounds_self_of_lt (by omega)]; rfl
          · rw [if_neg hji]; exact getD_set_ne false (Ne.symm hji)
        rw [e1, evT_put (fun t ht => by rw [hS.2.1]; exact hdb t ht)]
        exact hI'
      · intro j hj
        by_cases hji : j = i
        · subst hji
          unfold Fact
          rw [hU]
          cases hd : o.dst with
          | none => simpa [hd, atD] using hUv
          | some d =>
            have hsz : d < A.tmps.size := by rw [hS.2.1]; exact hdb d hd
            simp only [atD, eval_put_self hsz]
            simpa [hd] using hUv
        · rw [getD_set_ne false (Ne.symm hji)] at hj
          have hFj := hF j hj
          unfold Fact at hFj ⊢
          cases hGj : G[j]? with
          | none => trivial
          | some dV =>
            obtain ⟨d, V⟩ := dV
            rw [hGj] at hFj
            have hval : atD (A.put o.dst v).eval d = atD A.eval d := by
              cases d with
              | none => rfl
              | some d =>
                cases hdo : o.dst with
                | none => rfl
                | some d' =>
                  simp only [atD]
                  refine eval_put_ne fun he => ?_
                  have hjl : j < l.length := by rw [← hlen]; exact (List.getElem?_eq_some_iff.1 hGj).1
                  obtain ⟨Uj, hUj, _⟩ := hops j l[j] (List.getElem?_eq_getElem hjl)
                  rw [hGj] at hUj
                  injection hUj with hUj
                  have hdj : (l[j]).dst = some d := (Prod.mk.inj hUj).1.symm
                  exact hdist i j o _ d' hlo (List.getElem?_eq_getElem hjl) hdo (Ne.symm hji) (by rw [hdj, he])
            show V (atD (A.put o.dst v).eval d) W'
            rw [hval]
            exact hkeep j d V hGj hj _ hFj
    have hstab : ∀ W', C W' → R W W' → ∀ j d V, G[j]? = some (d, V) → listed.getD j false = true → ∀ u, V u W → V u W' := by
      intro W' hC' hR j d V hGj hj u hu
      have hjl : j < l.length := by rw [← hlen]; exact (List.getElem?_eq_some_iff.1 hGj).1
      obtain ⟨Uj, hUj, hstj, _⟩ := hops j l[j] (List.getElem?_eq_getElem hjl)
      rw [hGj] at hUj
      injection hUj with hUj
      have hV : V = Uj := (Prod.mk.inj hUj).2
      subst hV
      exact hstj u W W' hC' hR hu
    unfold wpOp
    simp only [ho]
    rw [hrun]
    cases hw : runs (G.take i) A.eval o.guard with
    | false =>
      rw [hw] at hstep'
      simp only [Bool.false_eq_true, if_false] at hstep' ⊢
      exact hnext undef W hC hstep'.2 (fun _ _ _ _ _ _ h => h) (by cases hds : o.dst.isSome <;> simpa using hstep'.1)
    | true =>
      rw [hw] at hstep'
      simp only [if_true] at hstep' ⊢
      left
      unfold Oper.wp
      unfold opGives opPost at hstep'
      generalize (execOp A.eval o).run P W = r at hstep'
      cases r with
      | halt x w' => exact hstep'.elim
      | ok nx w' =>
        cases nx with
        | value v => obtain ⟨⟨h1, h2⟩, h3, h4⟩ := hstep'; exact hnext v w' h1 h4 (hstab w' h1 h2) h3
        | skip => obtain ⟨⟨h1, h2⟩, h3, h4⟩ := hstep'; exact hnext undef w' h1 h4 (hstab w' h1 h2) (by cases hds : o.dst.isSome <;> simpa [hds] using h3)
        | enter f args =>
          refine Calls.mono (R' := _) hstep' ?_
          rintro e w'' ⟨v, rfl, ⟨h1, h2⟩, h3, h4⟩
          exact hnext v w'' h1 h4 (hstab w'' h1 h2) h3
        | _ => exact hstep'.elim

theorem wp_region_tame_cutkG {id : Nat} {Q : Exit → Act → World → Prop} {w : World} (C : World → Prop) (R : World → World → Prop) (I : (Nat → Bool) → (Nat → Value) → World → Prop) (hm : P.follows .mixedOrders = true) (n : Nat) (hn : a0.tmps.size = n) (k : Nat)
    (hB' : tameB (l.take k) n = true) (hcut : cutkB n (l.take k) (l.drop k) = true) (hg : (l.drop k).all (fun o => o.guard.isNone) = true) (hC : C w.drew) (hI0 : I (fun _ => false) (evT a0) w.drew)
    (h : wpTameG P C R I ((l.take k).map (·.dst)) a0 (fun A W => wpList P l.toArray Q (l.drop k) A W) (l.take k).length (l.take k) []) : (Code.region id l.toArray true).wp P Q a0 w := by
  subst hn
  obtain ⟨G, hlen, _, hfin, hops⟩ := wpTameG_facts (l.take k) [] h
  have hg' : ∀ o ∈ l.drop k, o.guard = none := fun o ho => by
    have := List.all_eq_true.1 hg o ho
    simpa using this
  have hrep : ∀ (N j : Nat), (Array.replicate N false).getD j false = false := fun N j => by
    rw [Array.getD_eq_getD_getElem?, Array.getElem?_replicate]; split <;> rfl
  have hfin' : ∀ A W, C W → Same0 ((l.take k).map (·.dst)) a0 A → I (fun j => decide (j < (l.take k).length)) (evT A) W → (∀ j, j < (l.take k).length → Fact G A.eval W j) → nestQ P (l.drop k) Q .normal A W := by
    intro A W c s i f
    exact nest_of _ hg' (hfin A W c s i (by simpa using f))
  have h1 := tame_anyG (I := I) (Q := nestQ P (l.drop k) Q) (Qn := fun A W => nestQ P (l.drop k) Q .normal A W) (fun _ _ h => h) hB' G (by simpa using hlen) hfin' (by simpa using hops) (l.take k).length (Array.replicate (l.take k).length false) a0 w.drew (by simp)
    (Nat.le_trans (List.length_filter_le _ _) (by simp)) hC ⟨rfl, rfl, fun _ _ => rfl⟩ (by simpa only [hrep] using hI0) (by
      intro j hj
      rw [hrep] at hj
      cases hj)
  refine wp_region_any hm ?_
  have h2 := any_nest (P := P) (n := a0.tmps.size) (l.drop k) (l.take k) (Q := Q) hcut h1
  rw [List.take_append_drop] at h2
  have e1 : (l.take k).length + (l.drop k).length = l.toArray.size := by rw [← List.length_append, List.take_append_drop]; simp
  rw [e1] at h2
  exact h2
variable {ds : List (Option Tmp)} {Q : Act → World → Prop} {I : (Nat → Bool) → (Nat → Value) → World → Prop} {n : Nat} {o : Oper} {rest : List Oper} {F : Facts}
/-- An operation of which the word does not speak. -/
theorem tameG_q {d : Tmp} (hd : o.dst = some d) (hI : ∀ L e W v, I L e W → I (updD L F.length true) (updD e d v) W) (v0 : Value)
    (hstep : ∀ ρ W, C W → Rd a0 ds ρ → (∀ e ∈ o.after, Region.binds .any e = true → Fact F ρ W e.on) → if runs F ρ o.guard then opGives P C R o ρ W (fun v W' => Is v0 v ∧ W' = W) else Is v0 undef)
    (h : wpTameG P C R I ds a0 Q n rest (F ++ [(some d, fun v _ => v = v0)])) : wpTameG P C R I ds a0 Q n (o :: rest) F := by
  refine ⟨fun v _ => v = v0, fun _ _ _ _ _ h => h, fun L A W hC hS hIA _ _ hD => ?_, by rw [hd]; exact h⟩
  have hs := hstep A.eval W hC (Rd.of hS) hD
  cases hr : runs F A.eval o.guard with
  | true =>
    rw [hr] at hs
    simp only [if_true] at hs ⊢
    refine opGives_monoD hs fun v W' _ hv => ?_
    rw [hd]
    obtain ⟨h1, rfl⟩ := hv
    exact ⟨h1, hI _ _ _ _ hIA⟩
  | false =>
    rw [hr] at hs
    simp only [Bool.false_eq_true, if_false] at hs ⊢
    rw [hd]
    exact ⟨hs, hI _ _ _ _ hIA⟩
/-- An operation of which the word speaks; it has no guard. -/
theorem tameG_m {d : Tmp} (hd : o.dst = some d) (hg : o.guard = none) (v0 : Value)
    (hstep : ∀ ρ L W, C W → Rd a0 ds ρ → I L (fun t => ρ (.tmp t)) W → L F.length = false → (∀ e ∈ o.after, Region.binds .any e = true → L e.on = true) → (∀ e ∈ o.after, Region.binds .any e = true → Fact F ρ W e.on) → opGives P C R o ρ W (fun v W' => Is v0 v ∧ I (updD L F.length true) (updD (fun t => ρ (.tmp t)) d v) W'))
    (h : wpTameG P C R I ds a0 Q n rest (F ++ [(some d, fun v _ => v = v0)])) : wpTameG P C R I ds a0 Q n (o :: rest) F := by
  refine ⟨fun v _ => v = v0, fun _ _ _ _ _ h => h, fun L A W hC hS hIA hL hLs hD => ?_, by rw [hd]; exact h⟩
  have e : runs F A.eval o.guard = true := by rw [hg]; rfl
  rw [e]
  simp only [if_true]
  refine opGives_monoD (hstep A.eval L W hC (Rd.of hS) hIA hL hLs hD) fun v W' _ hv => ?_
  rw [hd]
  exact hv
theorem tameG_end_put (hds : F.map (·.1) = ds) (hn : n = F.length) (h : ∀ ρ W, C W → Rd a0 ds ρ → allF F ρ W → Q { tmps := (putF ρ F a0.tmps.toList).toArray, defers := a0.defers } W) : wpTameG P C R I ds a0 Q n [] F := by
  intro A W hC hS hI hF
  exact (tame_end_put (P := P) (R := R) (C := C) hds hn h) A W hC hS hF

/-! A slot that is read ahead of the operation that writes it: the word. -/
def OldT (i0 i1 : Nat) (t : Tmp) (v : Value) (L : Nat → Bool) (e : Nat → Value) (_ : World) : Prop := (L i1 = false → e t = v) ∧ (L i1 = true → L i0 = true)
theorem OldT.start {i0 i1 : Nat} {t : Tmp} {v : Value} {e : Nat → Value} {W : World} (h : e t = v) : OldT i0 i1 t v (fun _ => false) e W := ⟨fun _ => h, fun h => by cases h⟩
theorem OldT.keep {i0 i1 i : Nat} {t d : Tmp} {v : Value} (h1 : (i == i1) = false) (h2 : (d == t) = false) : ∀ (L : Nat → Bool) (e : Nat → Value) (W : World) (u : Value), OldT i0 i1 t v L e W → OldT i0 i1 t v (updD L i true) (updD e d u) W := by
  intro L e W u h
  have n1 : i1 ≠ i := fun x => by rw [x] at h1; simp at h1
  have n2 : t ≠ d := fun x => by rw [x] at h2; simp at h2
  refine ⟨fun hL => ?_, fun hL => ?_⟩
  · rw [updD_ne n1] at hL
    rw [updD_ne n2]
    exact h.1 hL
  · rw [updD_ne n1] at hL
    by_cases hi : i0 = i
    · rw [hi, updD_self]
    · rw [updD_ne hi]; exact h.2 hL
end
end Go.Proofs.YtkpengeaolcjhaaGreatDoor
