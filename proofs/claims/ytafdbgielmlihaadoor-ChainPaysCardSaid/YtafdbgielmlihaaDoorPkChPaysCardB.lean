/- Loses: the reference's. -/
import Derived.Test.YtafdbgielmlihaaDoorPkChPaysCardA
import Derived.Laws.Cover1
import Derived.Test.YtafdbgielmlihaaDoorPkChTellsCardE
namespace Go.Proofs.YtafdbgielmlihaaDoor
open Go.RowKit Go.Shelf Go.Lib
set_option maxRecDepth 100000
set_option linter.unusedSimpArgs false

theorem run_max3 (ts : Array TypeId) (t : TypeId) (a b : Int) (W : World) : (Builtin.max_ ts t #[.int .i64 0, .int .i64 a, .int .i64 b]).run Tryd.prog W = .ok (.int .i64 (max 0 (max a b))) W := by
  rw [run_max_int3]
  congr 2
  split <;> split at * <;> omega
set_option maxHeartbeats 4000000 in
theorem refLoses_any (c : Chn) (st : Int) (s : Span) (hv sv : Value) (w : World) (hh : SlI w hv c.houses) (hs : SlL w sv c.sales) :
    Calls Tryd.prog 40 #[valC hv sv, .int .i64 st, valSp s] w (SpansE (losesL c st s) (losesE c st s) w) := by
  have HH := Lib.hid hh; have HS := Lib.hid hs
  obtain ⟨A, n, cp, rfl, hn, hlc, hcm⟩ := hh.form
  obtain ⟨A2, n2, cp2, rfl, hn2, hlc2, hcm2⟩ := hs.form
  obtain ⟨w0, hw0⟩ : ∃ w0, w0 = (w.alloc (.cells #[.slice A n cp, .slice A2 n2 cp2] 25)).alloc (.cells #[.int .i64 s.lo, .int .i64 s.hi] 48) := ⟨_, rfl⟩
  have E0 := Lib.hid (show Ext w w0 from hw0 ▸ (Ext.al _ _).alloc _)
  have B0 := Lib.hid (show Blk w0 w.heap.size 25 #[.slice A n cp, .slice A2 n2 cp2] from hw0 ▸ (Blk.new _ _ _).alloc _)
  have C0 := Lib.hid (show Blk w0 (w.heap.size + 1) 48 #[.int .i64 s.lo, .int .i64 s.hi] from hw0 ▸ Blk.at_ (by simp))
  have hz0 : w0.heap.size = w.heap.size + 2 := by rw [hw0]; simp
  clear hh hs
  go_enter Tryd.func40, Tryd.ntmps40
  go_wp2_with fail
  simp only [← hw0]
  clear hw0
  refine (refChain_any c _ _ _ (HH.out.ext E0.out) (HS.out.ext E0.out)).mono ?_
  rintro e w1 ⟨rfl, hE⟩
  have E1 := Lib.hid (E0.out.trans hE); have B1 := Lib.hid (B0.out.ext hE); have C1 := Lib.hid (C0.out.ext hE)
  have hz1 := hE.size
  clear hE
  cases hc : checkP c with
  | false =>
    have HO := Lib.hid (show losesE c st s = 60 by unfold losesE; rw [hc]; rfl)
    clear hc
    dsimp only [errB]
    go_wp2
    go_ret2
    exact ⟨⟨.slice none 0 0, by rw [HO.out]; rfl, by rw [loses_nil HO.out (by decide)]; exact Sl.nil _⟩, E1.out⟩
  | true =>
    have HR := Lib.hid (check_right hc).1
    have HS10 := Lib.hid (check_right hc).2
    have HCK := Lib.hid hc
    clear hc
    dsimp only [errB]
    have x0 := B1.out.c2
    go_wp2_with fail
    clear x0
    refine (house_any c st _ _ _ (HH.out.ext E1.out) (HS.out.ext E1.out)).mono ?_
    rintro e w2 ⟨rfl, hE⟩
    have E2 := Lib.hid (E1.out.trans hE); have B2 := Lib.hid (B1.out.ext hE); have C2 := Lib.hid (C1.out.ext hE)
    have hz2 := hE.size
    clear hE
    have hix : decide (0 ≤ houseI c st) = hasI c.houses st := hasI_idx c.houses st
    cases hq : hasI c.houses st with
    | false =>
      have hneg : houseI c st < 0 := by rw [hq] at hix; simp at hix; omega
      clear hix
      have HO := Lib.hid (show losesE c st s = 6 by unfold losesE; rw [HCK.out, hq]; rfl)
      clear hq
      go_wp2
      go_ret2
      exact ⟨⟨.slice none 0 0, by rw [HO.out]; rfl, by rw [loses_nil HO.out (by decide)]; exact Sl.nil _⟩, E2.out⟩
    | true =>
      have hneg : ¬ houseI c st < 0 := by rw [hq] at hix; simp at hix; omega
      have HQ := Lib.hid hq
      clear hq hix
      have x0 := C2.out.c2
      go_wp2_with fail
      clear x0
      refine (refPrices_any s _).mono ?_
      rintro e w3 ⟨rfl, hE⟩
      have E3 := Lib.hid (E2.out.trans hE); have B3 := Lib.hid (B2.out.ext hE); have C3 := Lib.hid (C2.out.ext hE)
      have hz3 := hE.size
      clear hE
      cases hp : pricedB s with
      | false =>
        have HO := Lib.hid (show losesE c st s = 62 by unfold losesE; rw [HCK.out, HQ.out, hp]; rfl)
        clear hp
        go_wp2
        go_ret2
        exact ⟨⟨.slice none 0 0, by rw [HO.out]; rfl, by rw [loses_nil HO.out (by decide)]; exact Sl.nil _⟩, E3.out⟩
      | true =>
        have HO := Lib.hid (show losesE c st s = 0 by unfold losesE; rw [HCK.out, HQ.out, hp]; rfl)
        have HOL := Lib.hid (show losesL c st s = losesAll c st s by unfold losesL; rw [if_pos HO.out])
        have hpb : (0 ≤ s.lo ∧ s.lo ≤ 1000000) ∧ (0 ≤ s.hi ∧ s.hi ≤ 1000000) := by
          unfold pricedB at hp
          rw [Bool.and_eq_true, inB_iff, inB_iff] at hp
          omega
        have HPB := Lib.hid hpb
        clear hp hpb
        have hn6 : n ≤ 6 := by have := HR.out.h6; have := hn.out; omega
        have x0 := B3.out.c2
        go_wp2
        clear x0
        refine wp_loop_ghost_k (fun g A' W => ∃ (k : Nat) (A1 : Option Addr) (n1 d1 : Nat), k ≤ n ∧ n - k ≤ g ∧ Fr 55 [(1, .int .i64 st), (3, .pointer (some ⟨w.heap.size, 0, none⟩)), (5, .pointer (some ⟨w.heap.size + 1, 0, none⟩)), (8, .slice A1 n1 d1), (24, .slice A n cp), (25, .int .i64 (n : Int)), (26, .int .i64 (k : Int))] [] A' ∧
          Ext w3 W ∧ Own encS 48 2 W w3.heap.size (.slice A1 n1 d1) ((c.houses.take k).map (loseS c st s))) n ?_ ?_
        · exact ⟨0, none, 0, 0, by omega, by omega, ⟨rfl, rfl, by simp [Act.eval]⟩, Ext.refl _, by simpa using Own.nil _ _⟩
        · rintro g A' U ⟨k, A1, n1, d1, hk, hg, hF, hE, hOw⟩ J K' hJ hK
          have HJ := Lib.hid hJ; have EU := Lib.hid hE; have OU := Lib.hid hOw
          have hzU := hE.size
          obtain ⟨ρ, rfl, hρ⟩ := hF.open_
          simp only [List.forall_mem_cons] at hρ
          obtain ⟨r1, r3, r5, r8, r24, r25, r26, -⟩ := hρ
          simp only [lst, Nat.reduceAdd, r1, r3, r5, r8, r24, r25, r26]
          clear r1 r3 r5 r8 r24 r25 r26 hF hE hOw hJ
          have EWU := Lib.hid (E3.out.trans EU.out)
          by_cases hlt : k < n
          · have hltz : (k : Int) < (n : Int) := by omega
            obtain ⟨b9, off9, id, rfl, hx, -, hcell⟩ := (HH.out.ext EWU.out).at_ hlt
            have c9 := SlI.cell hcell (Ext.refl _)
            have HST := Lib.hid (losesTo_succ (st := st) (s := s) hx)
            have x0 := (B3.out.ext EU.out).c2
            have m1 := fun W (h : Ext U W) => ((C3.out.ext EU.out).ext h).c2
            have m0 := fun W (h : Ext U W) => ((B3.out.ext EU.out).ext h).c2
            clear hx hcell
            go_wp2
            clear x0 c9
            refine wp_region_tame (fun W => Ext U W) (fun W W' => Ext W W') (by kernel_rfl) 55 rfl (by decide +kernel) (Ext.refl _).drew ?_
            repeat (apply tame_q rfl; (intro ρ W hC hr hD; (obtain ⟨hrc, hrg, hrf, hrs⟩ := hr); (simp [go_sem] at hD); go_simp; first | exact ⟨⟨hC, Ext.refl _⟩, rfl⟩ | exact ⟨⟨hC, RS.refl _⟩, rfl⟩ | exact rfl); simp only [List.nil_append, List.cons_append])
            apply tame_q rfl
            · intro ρ W hC hr hD
              obtain ⟨hrc, hrg, hrf, hrs⟩ := hr
              simp [go_sem] at hD
              go_simp
              refine (claims_any c id st s.lo _ _ W HR.out HS10.out HPB.out.1 (HH.out.ext (EWU.out.trans hC)) (HS.out.ext (EWU.out.trans hC))).mono ?_
              rintro e w' ⟨rfl, hE⟩
              exact ⟨_, rfl, ⟨hC.trans hE, hE⟩, rfl⟩
            simp only [List.nil_append, List.cons_append]
            repeat (apply tame_q rfl; (intro ρ W hC hr hD; (obtain ⟨hrc, hrg, hrf, hrs⟩ := hr); (simp [go_sem] at hD); go_simp; first | exact ⟨⟨hC, Ext.refl _⟩, rfl⟩ | exact ⟨⟨hC, RS.refl _⟩, rfl⟩ | exact rfl); simp only [List.nil_append, List.cons_append])
            apply tame_q rfl
            · intro ρ W hC hr hD
              obtain ⟨hrc, hrg, hrf, hrs⟩ := hr
              simp [go_sem] at hD
              go_simp
              refine (claims_any c id st s.hi _ _ W HR.out HS10.out HPB.out.2 (HH.out.ext (EWU.out.trans hC)) (HS.out.ext (EWU.out.trans hC))).mono ?_
              rintro e w' ⟨rfl, hE⟩
              exact ⟨_, rfl, ⟨hC.trans hE, hE⟩, rfl⟩
            simp only [List.nil_append, List.cons_append]
            repeat (apply tame_q rfl; (intro ρ W hC hr hD; (obtain ⟨hrc, hrg, hrf, hrs⟩ := hr); (simp [go_sem] at hD); go_simp; first | exact ⟨⟨hC, Ext.refl _⟩, rfl⟩ | exact ⟨⟨hC, RS.refl _⟩, rfl⟩ | exact rfl); simp only [List.nil_append, List.cons_append])
            refine tame_end_put rfl rfl (fun ρ W hC hr hF => ?_)
            simp [go_sem] at hF
            simp only [putF, hF, List.set_cons_succ, List.set_cons_zero]
            clear hF hr
            have HC := Lib.hid hC
            have hzW := hC.size
            clear hC m0 m1
            obtain ⟨a, ha⟩ : ∃ a, claimI c id st s.lo = a := ⟨_, rfl⟩
            obtain ⟨b, hb⟩ : ∃ b, claimI c id st s.hi = b := ⟨_, rfl⟩
            simp only [ha, hb]
            have HAB := Lib.hid (show loseS c st s id = ⟨max 0 (min a b), max 0 (max a b)⟩ by unfold loseS; rw [ha, hb])
            clear ha hb
            have hlen : ((c.houses.take k).map (loseS c st s)).length ≤ 10 := by rw [List.length_map, List.length_take]; omega
            have HSL := Lib.hid (show loseS c st s id = ⟨max 0 (min a b), max 0 (max a b)⟩ from HAB.out)
            have hm3 := fun ts t W => run_max3 ts t a b W
            go_wp2_with (at_builtin; refine wpList_app encS 56 48 2 _ 16 Tryd.underlying56 info48x rfl (by decide) (by decide) (fun _ => rfl) encS_1 rfl (.tmp 42) (.tmp 51) rfl w3.heap.size _ ((c.houses.take k).map (loseS c st s)) rfl ((OU.out.ext HC.out).alloc _) W.heap.size 1 ⟨max 0 (min a b), max 0 (max a b)⟩ rfl (cells2s (by simp [go_sem]) (by simp [go_sem])) (by omega) (by simp; omega) ?_)
            intro g9 cap w9 hown hg9 hbel hgr
            have HO9 := Lib.hid hown
            have HE9 := Lib.hid (show Ext w3 w9 from Below.trans ((EU.out.trans HC.out).alloc _) hbel)
            clear hown hbel hgr
            go_wp2
            exact Handed.intro (n - (k + 1)) (by omega) (HJ.out _ _ _ ⟨k + 1, _, _, _, by omega, Nat.le_refl _, ⟨rfl, rfl, by simp [Act.eval]; first | done | exact ⟨rfl, rfl, rfl⟩⟩, HE9.out, by rw [HST.out, HSL.out]; first | exact HO9.out | (rw [List.map_take]; exact HO9.out)⟩)
          · have HE := Lib.hid (show k = n by omega)
            go_wp2
            go_ret2
            refine ⟨⟨.slice A1 n1 d1, by rw [HO.out]; rfl, ?_⟩, EWU.out⟩
            have := OU.out
            rw [List.take_of_length_le (by have := HE.out; have := hn.out; omega)] at this
            rw [HOL.out]
            exact this.sl (fun _ => rfl)
end Go.Proofs.YtafdbgielmlihaaDoor
/- SameSpans; Worst: the reference's. -/
namespace Go.Proofs.YtafdbgielmlihaaDoor
open Go.RowKit Go.Shelf Go.Lib
set_option maxRecDepth 100000
set_option linter.unusedSimpArgs false

theorem und48 : Tryd.prog.underlying 48 = some (.struct (Tryd.prog.fieldsOf 48)) := by kernel_rfl
theorem held48 : Tryd.prog.stoodInHeld 48 = false := by kernel_rfl
theorem neq48s (a b : Int) (w : World) : (binOp .neq 48 (.agg #[.int .i64 a, .int .i64 b]) (.agg #[.int .i64 a, .int .i64 b])).run Tryd.prog w = .ok (.bool false) w := by
  have u3 := Tryd.underlying3
  have a3 := Tryd.isAgg3
  have z3 := Tryd.sizeOf3
  rw [run_neq_struct, show (10000 : Nat) = 9999 + 1 from rfl, run_equalIn_agg w 9999 48 _ _ und48 held48]
  simp only [Program.fieldsOf, Tryd.underlying48]
  go_simp
theorem sameSpans_any (l : List Span) (v v' : Value) (w : World) (h : SlS w v l) (h' : SlS w v' l) :
    Calls Tryd.prog 43 #[v, v'] w fun e w' => e = .returned (.bool true) ∧ Ext w w' := by
  have HA := Lib.hid h
  have HB := Lib.hid h'
  obtain ⟨A, n, cp, rfl, hn, hlc, hcm⟩ := h.form
  obtain ⟨A2, n2, cp2, rfl, hn2, hlc2, hcm2⟩ := h'.form
  have hnn : n2 = n := by have := hn.out; have := hn2.out; omega
  subst hnn
  have nq := fun a b w => neq48s a b w
  clear h h'
  go_enter Tryd.func43, Tryd.ntmps43
  go_wp2
  go_loopg [5] n2 (fun gg s wr => ∃ (k : Nat), k ≤ n2 ∧ n2 - k ≤ gg ∧ s = .int .i64 k ∧ Aside (Ext w wr))
  case atStart => exact ⟨0, by omega, by omega, rfl, Ext.refl _⟩
  case round =>
    obtain ⟨k, hk, hg, rfl, EW⟩ := hrel
    by_cases hlt : k < n2
    · have hjz : (k : Int) < (n2 : Int) := by omega
      obtain ⟨bb, off, x, rfl, hx, hb, hcell⟩ := HA.out.at_ hlt
      obtain ⟨bb', off', x', rfl, hx', hb', hcell'⟩ := HB.out.at_ hlt
      have hxx : x' = x := by rw [hx] at hx'; injection hx' with h; exact h.symm
      subst hxx
      have c0 := fun W (h : Ext wr W) => (SlS.cells hcell (EW.out.trans h)).1
      have c1 := fun W (h : Ext wr W) => (SlS.cells hcell (EW.out.trans h)).2
      have d0 := fun W (h : Ext wr W) => (SlS.cells hcell' (EW.out.trans h)).1
      have d1 := fun W (h : Ext wr W) => (SlS.cells hcell' (EW.out.trans h)).2
      clear hx hx' hcell hcell'
      go_wp2
      refine wp_region_tame (fun W => Ext wr W) (fun W W' => Ext W W') (by kernel_rfl) 26 rfl (by decide +kernel) (Ext.refl _).drew ?_
      repeat (apply tame_q rfl; (intro ρ W hC hr hD; (obtain ⟨hrc, hrg, hrf, hrs⟩ := hr); (simp [go_sem] at hD); go_simp; first | exact ⟨⟨hC, Ext.refl _⟩, rfl⟩ | exact ⟨⟨hC, RS.refl _⟩, rfl⟩ | exact rfl); simp only [List.nil_append, List.cons_append])
      refine tame_end 26 rfl rfl (fun ρ W hC hr hF => ?_)
      obtain ⟨hrc, hrg, hrf, hrs⟩ := hr
      simp [go_sem] at hF
      apply frame_to
      · go_simp
        exact rfl
      clear hF hrs hrc hrg hrf
      have HC := Lib.hid hC; clear hC c0 c1 d0 d1
      go_wp2
      go_roundg (n2 - (k + 1))
      case measure => omega
      case rel => exact ⟨k + 1, by omega, by omega, rfl, EW.out.trans HC.out⟩
    · go_wp2
      go_ret
      exact ⟨rfl, EW.out⟩
/-- A house, pence, and an error. -/
def WorstR (p : Int × Int) (E : Int) (w : World) (e : Ending) (w' : World) : Prop := e = .returned (.tuple #[.int .i64 p.1, .int .i64 p.2, .int .i64 E]) ∧ Ext w w'
theorem worst_none {c : Chn} {s : Span} {E : Int} (h : worstE c s = E) (h0 : E ≠ 0) : worstP c s = (0, 0) := by
  unfold worstP
  rw [if_neg (by rw [h]; exact h0)]
theorem losesE_ok {c : Chn} {st : Int} {s : Span} (hc : checkP c = true) (hp : pricedB s = true) (hm : st ∈ c.houses) : losesE c st s = 0 := by
  unfold losesE
  rw [hc, hp, hasI_iff.2 hm]
  rfl
set_option maxHeartbeats 4000000 in
theorem refWorst_any (c : Chn) (s : Span) (hv sv : Value) (w : World) (hh : SlI w hv c.houses) (hs : SlL w sv c.sales) :
    Calls Tryd.prog 42 #[valC hv sv, valSp s] w (WorstR (worstP c s) (worstE c s) w) := by
  have HH := Lib.hid hh; have HS := Lib.hid hs
  obtain ⟨A, n, cp, rfl, hn, hlc, hcm⟩ := hh.form
  obtain ⟨A2, n2, cp2, rfl, hn2, hlc2, hcm2⟩ := hs.form
  obtain ⟨w0, hw0⟩ : ∃ w0, w0 = (w.alloc (.cells #[.slice A n cp, .slice A2 n2 cp2] 25)).alloc (.cells #[.int .i64 s.lo, .int .i64 s.hi] 48) := ⟨_, rfl⟩
  have E0 := Lib.hid (show Ext w w0 from hw0 ▸ (Ext.al _ _).alloc _)
  have B0 := Lib.hid (show Blk w0 w.heap.size 25 #[.slice A n cp, .slice A2 n2 cp2] from hw0 ▸ (Blk.new _ _ _).alloc _)
  have C0 := Lib.hid (show Blk w0 (w.heap.size + 1) 48 #[.int .i64 s.lo, .int .i64 s.hi] from hw0 ▸ Blk.at_ (by simp))
  clear hh hs
  go_enter Tryd.func42, Tryd.ntmps42
  go_wp2_with fail
  simp only [← hw0]
  clear hw0
  refine (refChain_any c _ _ _ (HH.out.ext E0.out) (HS.out.ext E0.out)).mono ?_
  rintro e w1 ⟨rfl, hE⟩
  have E1 := Lib.hid (E0.out.trans hE); have B1 := Lib.hid (B0.out.ext hE); have C1 := Lib.hid (C0.out.ext hE)
  clear hE
  cases hc : checkP c with
  | false =>
    have HO := Lib.hid (show worstE c s = 60 by unfold worstE; rw [hc]; rfl)
    clear hc
    go_wp2
    go_ret3
    exact ⟨by rw [worst_none HO.out (by decide), HO.out]; rfl, E1.out⟩
  | true =>
    have HR := Lib.hid (check_right hc).1
    have HN := Lib.hid (check_right hc).2
    have HC := Lib.hid hc
    clear hc
    have x0 := C1.out.c2
    go_wp2_with fail
    clear x0
    refine (refPrices_any s _).mono ?_
    rintro e w2 ⟨rfl, hE⟩
    have E2 := Lib.hid (E1.out.trans hE); have B2 := Lib.hid (B1.out.ext hE); have C2 := Lib.hid (C1.out.ext hE)
    clear hE
    cases hp : pricedB s with
    | false =>
      have HO := Lib.hid (show worstE c s = 62 by unfold worstE; rw [HC.out, hp]; rfl)
      clear hp
      go_wp2
      go_ret3
      exact ⟨by rw [worst_none HO.out (by decide), HO.out]; rfl, E2.out⟩
    | true =>
      have HP := Lib.hid hp
      clear hp
      have x0 := B2.out.c2
      have hn6 : n ≤ 6 := by have := HR.out.h6; have := hn.out; omega
      by_cases h0 : n = 0
      · have HO := Lib.hid (show worstE c s = 6 by unfold worstE; rw [HC.out, HP.out]; have := hn.out; rw [if_pos rfl, if_pos rfl, if_pos (by omega)])
        subst h0
        go_wp2
        go_ret3
        exact ⟨by rw [worst_none HO.out (by decide), HO.out]; rfl, E2.out⟩
      · have HO := Lib.hid (show worstE c s = 0 by unfold worstE; rw [HC.out, HP.out]; have := hn.out; rw [if_pos rfl, if_pos rfl, if_neg (by omega)])
        have HWP := Lib.hid (show worstP c s = worstTo c s n by unfold worstP; rw [if_pos HO.out]; congr 1; exact hn.out.symm)
        have hnz : ((n : Int) == 0) = false := by simpa using h0
        go_wp2
        clear x0
        refine wp_loop_ghost_k (fun g A' W => ∃ (kk : Nat), kk ≤ n ∧ n - kk ≤ g ∧ Fr 59 [(2, .pointer (some ⟨w.heap.size, 0, none⟩)), (3, .pointer (some ⟨w.heap.size + 1, 0, none⟩)), (7, .int .i64 (worstTo c s kk).1), (8, .int .i64 (worstTo c s kk).2), (27, .slice A n cp), (28, .int .i64 (n : Int)), (29, .int .i64 (kk : Int))] [] A' ∧
          Ext w2 W) n ?_ ?_
        · exact ⟨0, by omega, by omega, ⟨rfl, rfl, by simp [Act.eval, worstTo]⟩, Ext.refl _⟩
        · rintro g A' U ⟨kk, hkk, hg, hF, hE⟩ J2 K' hJ2 hK'
          have HJ2 := Lib.hid hJ2; have EU := Lib.hid (E2.out.trans hE); have BU := Lib.hid (B2.out.ext hE); have CU := Lib.hid (C2.out.ext hE); have EU2 := Lib.hid hE
          obtain ⟨q, hq⟩ : ∃ q, worstTo c s kk = q := ⟨_, rfl⟩
          have HQ := Lib.hid hq
          simp only [hq] at hF
          obtain ⟨ρ, rfl, hρ⟩ := hF.open_
          simp only [List.forall_mem_cons] at hρ
          obtain ⟨r2, r3, r7, r8, r27, r28, r29, -⟩ := hρ
          simp only [lst, Nat.reduceAdd, r2, r3, r7, r8, r27, r28, r29]
          clear r2 r3 r7 r8 r27 r28 r29 hF hE hJ2 hq
          by_cases hlt : kk < n
          · have hltz : (kk : Int) < (n : Int) := by omega
            obtain ⟨b9, off9, id, rfl, hx, -, hcell⟩ := (HH.out.ext EU.out).at_ hlt
            have c9 := SlI.cell hcell (Ext.refl _)
            have HWS := Lib.hid (worstTo_succ (s := s) hx)
            have HLE := Lib.hid (losesE_ok HC.out HP.out (List.mem_of_getElem? hx))
            have x0 := BU.out.c2
            have x1 := CU.out.c2
            clear hx hcell
            go_wp2_with fail
            clear x0 x1 c9
            refine (refLoses_any c id s _ _ U (HH.out.ext EU.out) (HS.out.ext EU.out)).mono ?_
            rintro e W1 ⟨⟨v, rfl, hv⟩, hE⟩
            have E1' := Lib.hid (EU2.out.trans hE)
            rw [show losesL c id s = losesAll c id s by unfold losesL; rw [if_pos HLE.out]] at hv
            obtain ⟨Av, nv, cv, rfl, hnv, -, -⟩ := hv.form
            have HV := Lib.hid hv
            have hnvn : nv = n := by have := hnv.out; unfold losesAll at this; rw [List.length_map] at this; have := hn.out; omega
            subst hnvn
            obtain ⟨L, hL⟩ : ∃ L, losesAll c id s = L := ⟨_, rfl⟩
            have HBD := Lib.hid (show ∀ x ∈ L, 0 ≤ x.hi ∧ x.hi ≤ 90000000 from fun x hx => by
              rw [← hL] at hx
              obtain ⟨h, -, rfl⟩ := List.mem_map.1 hx
              exact loseS_bd HR.out HN.out HP.out)
            have HLL := Lib.hid (show L.length = nv by rw [← hL]; exact hnv.out.symm)
            rw [hL] at HWS HV
            clear hv hE hL
            go_wp2
            refine wp_loop_ghost_k (fun g A' V => ∃ (k : Nat), k ≤ nv ∧ nv - k ≤ g ∧ Fr 59 [(2, .pointer (some ⟨w.heap.size, 0, none⟩)), (3, .pointer (some ⟨w.heap.size + 1, 0, none⟩)), (7, .int .i64 q.1), (8, .int .i64 q.2), (10, .int .i64 id), (13, .int .i64 (hiTo L k)), (27, .slice (some ⟨b9, off9, none⟩) nv cp), (28, .int .i64 (nv : Int)), (29, .int .i64 (kk : Int)), (40, .slice Av nv cv), (41, .int .i64 (nv : Int)), (42, .int .i64 (k : Int))] [] A' ∧
              Ext W1 V) nv ?_ ?_
            · exact ⟨0, by omega, by omega, ⟨rfl, rfl, by simp [Act.eval, hiTo]⟩, Ext.refl _⟩
            · rintro g2 A2' V ⟨k, hk, hg2, hF, hE⟩ J3 K3 hJ3 hK3
              have HJ3 := Lib.hid hJ3; have EV := Lib.hid hE
              obtain ⟨ρ, rfl, hρ⟩ := hF.open_
              simp only [List.forall_mem_cons] at hρ
              obtain ⟨r2, r3, r7, r8, r10, r13, r27, r28, r29, r40, r41, r42, -⟩ := hρ
              simp only [lst, Nat.reduceAdd, r2, r3, r7, r8, r10, r13, r27, r28, r29, r40, r41, r42]
              clear r2 r3 r7 r8 r10 r13 r27 r28 r29 r40 r41 r42 hF hE hJ3
              have hbd := hiTo_bd (by decide) HBD.out k
              by_cases hlk : k < nv
              · have hlkz : (k : Int) < (nv : Int) := by omega
                obtain ⟨bs, os, x, rfl, hx, -, hcell⟩ := HV.out.at_ hlk
                obtain ⟨z0, z1⟩ := SlS.cells hcell EV.out
                have hst := hiTo_succ hx
                have hxb := HBD.out x (List.mem_of_getElem? hx)
                have hw1 : IntKind.i64.wrap (hiTo L k + x.hi) = hiTo L (k + 1) := by rw [hst, IntKind.wrap_i64]; omega
                clear hx hcell hst
                go_wp2
                exact Handed.intro (nv - (k + 1)) (by omega) (HJ3.out _ _ _ ⟨k + 1, by omega, Nat.le_refl _, ⟨rfl, rfl, by simp [Act.eval]⟩, EV.out.alloc _⟩)
              · have HE := Lib.hid (show k = nv by omega)
                have HHI := Lib.hid (show hiTo L k = hiI L by unfold hiI; rw [HE.out, HLL.out])
                rw [HHI.out]
                have EX := Lib.hid (E1'.out.trans EV.out)
                rw [HQ.out] at HWS
                by_cases hgt : q.2 < hiI L
                · have HWN := Lib.hid (show worstTo c s (kk + 1) = (id, hiI L) by rw [HWS.out, if_pos hgt])
                  go_wp2
                  exact Handed.intro (nv - (kk + 1)) (by omega) (HJ2.out _ _ _ ⟨kk + 1, by omega, Nat.le_refl _, ⟨rfl, rfl, by rw [HWN.out]; simp [Act.eval]⟩, EX.out⟩)
                · have HWN := Lib.hid (show worstTo c s (kk + 1) = q by rw [HWS.out, if_neg hgt])
                  go_wp2
                  exact Handed.intro (nv - (kk + 1)) (by omega) (HJ2.out _ _ _ ⟨kk + 1, by omega, Nat.le_refl _, ⟨rfl, rfl, by rw [HWN.out]; simp [Act.eval]⟩, EX.out⟩)
          · have HE := Lib.hid (show kk = n by omega)
            have HWN := Lib.hid (show worstP c s = q by rw [HWP.out, ← HE.out]; exact HQ.out)
            go_wp2
            go_ret3
            exact ⟨by rw [HWN.out, HO.out]; rfl, EU.out⟩
end Go.Proofs.YtafdbgielmlihaaDoor
