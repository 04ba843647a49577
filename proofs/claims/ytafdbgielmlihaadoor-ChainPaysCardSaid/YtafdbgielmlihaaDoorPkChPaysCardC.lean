/- first, at losses: a house and a number of pence. -/
import Derived.Test.YtafdbgielmlihaaDoorPkChTellsCardM
import Derived.Laws.ResultCell
namespace Go.Proofs.YtafdbgielmlihaaDoor
open Go.RowKit Go.Shelf Go.Lib
set_option maxRecDepth 100000
set_option linter.unusedSimpArgs false
attribute [local go_sem] Oper.semAt_some

abbrev valLo (x : Int × Int) : Value := .agg #[.int .i64 x.1, .int .i64 x.2]
theorem store2 {wr W : World} {g : Nat} {t : TypeId} {x0 x1 : Value} (hg : wr.grownBy W (some g)) (h : Blk W g t #[x0, x1]) (y0 y1 : Value) :
    CR (fun W => CS wr g t 2 W) (fun W W' => RS g t #[y0, y1] W W') W ((W.setCell ⟨g, 0, none⟩ y0).setCell ⟨g, 1, none⟩ y1) ∧ Blk ((W.setCell ⟨g, 0, none⟩ y0).setCell ⟨g, 1, none⟩ y1) g t #[y0, y1] := by
  have hB : Blk ((W.setCell ⟨g, 0, none⟩ y0).setCell ⟨g, 1, none⟩ y1) g t #[y0, y1] := by
    have := (h.set_ 0 y0).set_ 1 y1
    simpa using this
  exact ⟨⟨⟨grown_set (grown_set hg (p := ⟨g, 0, none⟩) (.inl rfl) y0) (p := ⟨g, 1, none⟩) (.inl rfl) y1, _, hB, rfl⟩, grown_set (grown_set (World.grownBy.refl _ _) (p := ⟨g, 0, none⟩) (.inl rfl) y0) (p := ⟨g, 1, none⟩) (.inl rfl) y1, fun _ => hB⟩, hB⟩
set_option maxHeartbeats 2000000 in
theorem firstL_any {gf tf : FuncId} {lb tlb : Array Value} (eg : ∀ args w, (callFunc gf args).run Tryd.prog w = .ok (.enter gf args) w) (et : ∀ args w, (callFunc tf args).run Tryd.prog w = .ok (.enter tf args) w)
    {xs : List (Int × Int)} {ord : Int × Int → Int × Int → Int} {w : World} (hseq : Seqs Tryd.prog gf lb w.heap.size (fun k => k = w.heap.size + 2 ∨ k = w.heap.size + 3) (fun (x : Int × Int) v _ => v = valLo x) xs w)
    (htest : ∀ x ∈ xs, ∀ y ∈ xs, ∀ W, Below w.heap.size w W → Calls Tryd.prog tf (#[valLo x, valLo y] ++ tlb) W fun e W' => e = .returned (.int .i64 (ord x y)) ∧ Ext W W') :
    Calls Tryd.prog 96 #[.func (.func gf) #[] lb, .func (.func tf) #[] tlb] w fun e w' => e = .returned (.tuple #[valLo ((firstO ord xs).getD (0, 0)), .bool (firstO ord xs).isSome]) ∧ Below w.heap.size w w' := by
  refine calls_of_wp_marks Tryd.func96 rfl ?_
  simp only [Tryd.ntmps96, List.size_toArray, List.length_cons, List.length_nil, Nat.reduceAdd, Nat.reduceSub, Array.replicate_succ, Array.replicate_zero, List.push_toArray, List.append_toArray, List.nil_append, List.cons_append]
  go_wp2_with fail
  generalize hw3 : ((((w.alloc (.cells #[.func (.func tf) #[] tlb] 140)).alloc (.cells #[.int .i64 0, .int .i64 0] 134)).alloc (.cells #[.int .i64 0, .int .i64 0] 134)).alloc (.cells #[.bool false] 4)) = w3
  have E3 : Ext w w3 := by rw [← hw3]; exact (((Ext.al _ _).alloc _).alloc _).alloc _
  have hz3 : w3.heap.size = w.heap.size + 4 := by rw [← hw3]; simp
  have B0 : Blk w3 w.heap.size 140 #[.func (.func tf) #[] tlb] := by rw [← hw3]; exact (((Blk.new _ _ _).alloc _).alloc _).alloc _
  have BR : Blk w3 (w.heap.size + 1) 134 #[.int .i64 0, .int .i64 0] := by rw [← hw3]; exact ((Blk.at_ (by simp)).alloc _).alloc _
  have B1 : Blk w3 (w.heap.size + 1 + 1) 134 #[.int .i64 0, .int .i64 0] := by rw [← hw3]; exact (Blk.at_ (by simp)).alloc _
  have B2 : Blk w3 (w.heap.size + 1 + 1 + 1) 4 #[.bool false] := by rw [← hw3]; exact Blk.at_ (by simp)
  refine wp_rangeFuncB (by rfl) eg hseq E3 (by omega)
    (fun pre W => Blk W w.heap.size 140 #[.func (.func tf) #[] tlb] ∧ Blk W (w.heap.size + 1 + 1) 134 #[.int .i64 ((firstO ord pre).getD (0, 0)).1, .int .i64 ((firstO ord pre).getD (0, 0)).2] ∧ Blk W (w.heap.size + 1 + 1 + 1) 4 #[.bool (firstO ord pre).isSome] ∧ Below w.heap.size w W ∧ Blk W (w.heap.size + 1) 134 #[.int .i64 0, .int .i64 0])
    (fun _ _ _ => False)
    ?_ ?_ ?_ (fun x _ A W => ∃ g, w3.heap.size + 1 < g ∧ Blk W g 134 #[.int .i64 x.1, .int .i64 x.2] ∧ A = { tmps := #[.func (.func gf) #[] lb, .func (.func tf) #[] tlb, undef, .pointer (some ⟨w.heap.size, 0, none⟩), .pointer (some ⟨w.heap.size + 1, 0, none⟩), .bool false, .pointer (some ⟨w.heap.size + 1 + 1, 0, none⟩), .pointer (some ⟨w.heap.size + 1 + 1 + 1, 0, none⟩), .pointer (some ⟨g, 0, none⟩), .func (.func gf) #[] lb, valLo x, undef, undef, undef, undef, undef, undef, undef, undef, undef, undef, undef, undef], defers := [] }) ?_ ?_ ?_ ?_ ?_
  · rintro pre A B ⟨h2, h3, h4, h5, h6⟩ hA hT
    exact ⟨h2.turn hT (by omega) (by omega), h3.turn hT (by omega) (by omega), h4.turn hT (by omega) (by omega), hT.below h5 (by omega) (by omega), h6.turn hT (by omega) (by omega)⟩
  · rintro c pre A B h
    exact h.elim
  · intro W hW
    exact ⟨B0.ext hW, B1.ext hW, B2.ext hW, E3.trans hW, BR.ext hW⟩
  · rintro x v A W W' ⟨g, h1, h2, h3⟩ _ hT
    exact ⟨g, h1, h2.turn hT (by omega) (by omega), h3⟩
  · rintro m l pre x v W K hi hv hpre hlt hK
    subst hv
    clear hi
    gi_wp2
    exact hK _ _ (Ext.al _ _) ⟨W.heap.size, by omega, Blk.new _ _ _, rfl⟩
  · rintro m l pre x v A W ⟨h2, h3, h4, h5, h6⟩ ⟨g, hg, hB, rfl⟩ hpre hlt hd hr
    have hx : x ∈ xs := by
      obtain ⟨q, hq⟩ := hpre
      rw [← hq]; simp
    have hpx : ∀ y ∈ pre, y ∈ xs := by
      obtain ⟨q, hq⟩ := hpre
      intro y hy
      rw [← hq]; simp [hy]
    have H2 := Lib.hid h2; have H3 := Lib.hid h3; have H4 := Lib.hid h4; have H5 := Lib.hid h5; have H6 := Lib.hid h6; have HBX := Lib.hid hB
    have HS := Lib.hid (firstO_snoc ord pre x)
    obtain ⟨x0, -, l0⟩ := H2.out.c1
    obtain ⟨x1, x1', f1, l1⟩ := H3.out.c2
    obtain ⟨x2, f2, l2⟩ := H4.out.c1
    obtain ⟨y0, y1, yf, yl⟩ := HBX.out.c2
    have HLT := Lib.hid hlt; have HG := Lib.hid hg
    have HPX := Lib.hid hpx; have HXX := Lib.hid hx
    have HTE := Lib.hid htest
    clear hpre hd hr h2 h3 h4 h5 h6 hB B0 B1 B2 BR hseq hlt hpx hx htest
    cases hacc : firstO ord pre with
    | none =>
      rw [hacc] at x1 x1' x2
      have HSN := Lib.hid (show firstO ord (pre ++ [x]) = some x by rw [HS.out, hacc]; rfl)
      clear hacc
      simp only [Option.getD, Option.isSome] at x1 x1' x2
      gi_wp2
      refine ⟨fun _ h => (by cases h), ?_⟩
      gi_wp2
      have hw := H5.out.size
      have hlt := HLT.out
      have he := Below.size (Ext.refl W)
      refine ⟨(((Keep.ext (Ext.refl W) hw).setCell (by dsimp only; omega) (.inl (by dsimp only)) _).setCell (by dsimp only; omega) (.inl (by dsimp only)) _).setCell (by dsimp only; omega) (.inr (by dsimp only)) _, ?_, ?_, (((H2.out.ext (Ext.refl W)).far (by dsimp only; omega) _).far (by dsimp only; omega) _).far (by dsimp only; omega) _, ?_, ?_, (((H5.out.trans (Below.mono (Ext.refl W) hw)).setCell (by dsimp only; omega) _).setCell (by dsimp only; omega) _).setCell (by dsimp only; omega) _, (((H6.out.ext (Ext.refl W)).far (by dsimp only; omega) _).far (by dsimp only; omega) _).far (by dsimp only; omega) _⟩
      · exact (Below.heap_setCell _ _ _ _ (by dsimp only; omega)).trans ((Below.heap_setCell _ _ _ _ (by dsimp only; omega)).trans ((Below.heap_setCell _ _ _ _ (by dsimp only; omega)).trans (Below.block (Ext.refl W) _ (by omega))))
      · exact (Below.heap_setCell _ _ _ _ (by dsimp only; omega)).trans ((Below.heap_setCell _ _ _ _ (by dsimp only; omega)).trans ((Below.heap_setCell _ _ _ _ (by dsimp only; omega)).trans (Below.block (Ext.refl W) _ (by omega))))
      · rw [HSN.out]; exact (((H3.out.ext (Ext.refl W)).set_ 0 _).set_ 1 _).far (by dsimp only; omega) _
      · rw [HSN.out]; exact (((H4.out.ext (Ext.refl W)).far (by dsimp only; omega) _).far (by dsimp only; omega) _).set_ 0 _
    | some b =>
      rw [hacc] at x1 x1' x2
      have hb := firstO_mem ord pre b hacc
      have HTB := Lib.hid (HTE.out x HXX.out b (HPX.out b hb) W H5.out)
      have HSN := Lib.hid (show firstO ord (pre ++ [x]) = if ord x b < 0 then some x else some b by rw [HS.out, hacc]; rfl)
      have HAC := Lib.hid hacc
      clear hacc hb
      simp only [Option.getD, Option.isSome] at x1 x1' x2
      gi_wp2_with fail
      refine ⟨trivial, wide_depth _, ?_⟩
      refine (CallsIn.inRound l (callsIn_wide.2 HTB.out)).mono ?_
      rintro e W1 ⟨rfl, hE⟩
      have HE := Lib.hid hE
      clear hE x0 x1 x1' f1 l1 x2 f2 l2 y0 y1 yf yl
      obtain ⟨x1, x1', f1, l1⟩ := (H3.out.ext HE.out).c2
      obtain ⟨x2, f2, l2⟩ := (H4.out.ext HE.out).c1
      obtain ⟨y0, y1, yf, yl⟩ := (HBX.out.ext HE.out).c2
      by_cases hlt : ord x b < 0
      · have HSM := Lib.hid (show firstO ord (pre ++ [x]) = some x by rw [HSN.out, if_pos hlt])
        gi_wp2
        have hw := H5.out.size
        have hlt := HLT.out
        have he := Below.size (HE.out)
        refine ⟨(((Keep.ext (HE.out) hw).setCell (by dsimp only; omega) (.inl (by dsimp only)) _).setCell (by dsimp only; omega) (.inl (by dsimp only)) _).setCell (by dsimp only; omega) (.inr (by dsimp only)) _, ?_, ?_, (((H2.out.ext (HE.out)).far (by dsimp only; omega) _).far (by dsimp only; omega) _).far (by dsimp only; omega) _, ?_, ?_, (((H5.out.trans (Below.mono (HE.out) hw)).setCell (by dsimp only; omega) _).setCell (by dsimp only; omega) _).setCell (by dsimp only; omega) _, (((H6.out.ext (HE.out)).far (by dsimp only; omega) _).far (by dsimp only; omega) _).far (by dsimp only; omega) _⟩
        · exact (Below.heap_setCell _ _ _ _ (by dsimp only; omega)).trans ((Below.heap_setCell _ _ _ _ (by dsimp only; omega)).trans ((Below.heap_setCell _ _ _ _ (by dsimp only; omega)).trans (Below.block (HE.out) _ (by omega))))
        · exact (Below.heap_setCell _ _ _ _ (by dsimp only; omega)).trans ((Below.heap_setCell _ _ _ _ (by dsimp only; omega)).trans ((Below.heap_setCell _ _ _ _ (by dsimp only; omega)).trans (Below.block (HE.out) _ (by omega))))
        · rw [HSM.out]; exact (((H3.out.ext (HE.out)).set_ 0 _).set_ 1 _).far (by dsimp only; omega) _
        · rw [HSM.out]; exact (((H4.out.ext (HE.out)).far (by dsimp only; omega) _).far (by dsimp only; omega) _).set_ 0 _
      · have HSM := Lib.hid (show firstO ord (pre ++ [x]) = some b by rw [HSN.out, if_neg hlt])
        gi_wp2
        have hw := H5.out.size
        have hlt := HLT.out
        exact ⟨Keep.ext HE.out hw, HE.out.block _ (by omega), HE.out.block _ (by omega), H2.out.ext HE.out, by rw [HSM.out, ← HAC.out]; exact H3.out.ext HE.out, by rw [HSM.out, ← HAC.out]; exact H4.out.ext HE.out, H5.out.trans (HE.out.mono hw), H6.out.ext HE.out⟩
  · rintro V ⟨h2, h3, h4, h5, h6⟩ hlt hK
    obtain ⟨fo, hfo⟩ : ∃ fo, firstO ord xs = fo := ⟨_, rfl⟩
    rw [hfo] at h3 h4
    have HFO := Lib.hid hfo
    clear hfo
    have H3 := Lib.hid h3; have H4 := Lib.hid h4; have H5 := Lib.hid h5; have HKK := Lib.hid hK; have H6 := Lib.hid h6
    clear h2 h3 h4 h5 h6 B0 B1 B2 BR hK hseq htest E3
    have hz := H5.out.size
    obtain ⟨a0, a1, -, -⟩ := H3.out.c2
    obtain ⟨d0, -, -⟩ := H4.out.c1
    have q0 := fun W (h : CS V (w.heap.size + 1) 134 2 W) => (h.cell (b := w.heap.size + 1 + 1) (by omega) (by omega) 0).trans a0
    have q1 := fun W (h : CS V (w.heap.size + 1) 134 2 W) => (h.cell (b := w.heap.size + 1 + 1) (by omega) (by omega) 1).trans a1
    have q2 := fun W (h : CS V (w.heap.size + 1) 134 2 W) => (h.cell (b := w.heap.size + 1 + 1 + 1) (by omega) (by omega) 0).trans d0
    have HST := Lib.hid (CS.start H6.out)
    clear a0 a1 d0
    go_wp2
    refine wp_region_tame (fun W => CS V (w.heap.size + 1) 134 2 W) (fun W W' => RS (w.heap.size + 1) 134 #[.int .i64 (fo.getD (0, 0)).1, .int .i64 (fo.getD (0, 0)).2] W W') (by kernel_rfl) 23 rfl (by decide +kernel) HST.out ?_
    repeat
      (apply tame_q rfl
       (intro ρ W hC hr hD
        obtain ⟨hrc, hrg, hrf, hrs⟩ := hr
        simp [go_sem] at hD
        go_simp
        first | exact ⟨⟨hC, RS.refl _⟩, rfl⟩ | exact rfl)
       simp only [List.nil_append, List.cons_append])
    apply tame_n (fun _ W => Blk W (w.heap.size + 1) 134 #[.int .i64 (fo.getD (0, 0)).1, .int .i64 (fo.getD (0, 0)).2]) (fun _ W W' _ hR h => hR.2 h)
    · intro ρ W hC hr hD
      obtain ⟨hrc, hrg, hrf, hrs⟩ := hr
      simp [go_sem] at hD
      obtain ⟨hg1, cs0, hB, hsz⟩ := hC
      obtain ⟨cs0⟩ := cs0
      obtain ⟨x0, x1, rfl⟩ : ∃ x0 x1, cs0 = [x0, x1] := by
        match cs0, hsz with
        | [x0, x1], _ => exact ⟨_, _, rfl⟩
      obtain ⟨b0, b1, bf, bl⟩ := hB.c2
      have HB := Lib.hid hB; have HG1 := Lib.hid hg1; clear hB hg1
      go_simp
      exact store2 HG1.out HB.out _ _
    simp only [List.nil_append, List.cons_append]
    repeat
      (apply tame_q rfl
       (intro ρ W hC hr hD
        obtain ⟨hrc, hrg, hrf, hrs⟩ := hr
        simp [go_sem] at hD
        go_simp
        first | exact ⟨⟨hC, RS.refl _⟩, rfl⟩ | exact rfl)
       simp only [List.nil_append, List.cons_append])
    refine tame_end 23 rfl rfl (fun ρ W hC hr hF => ?_)
    obtain ⟨hrc, hrg, hrf, hrs⟩ := hr
    have hBF : Blk W (w.heap.size + 1) 134 #[.int .i64 (fo.getD (0, 0)).1, .int .i64 (fo.getD (0, 0)).2] := hF.2.2.1
    have HBF := Lib.hid hBF; clear hBF
    simp [go_sem] at hF
    apply frame_to
    · go_simp
      exact rfl
    clear hF hrs hrc hrg hrf
    have HC := Lib.hid hC.1
    clear hC q0 q1 q2
    have hK' := (HC.out.block w3.heap.size (by omega) (by intro e; injection e with e; omega)).trans HKK.out
    have hbel : Below w.heap.size w W := H5.out.grown HC.out (by omega) (fun k e => by injection e with e; omega)
    obtain ⟨b0, b1, -, hbl⟩ := HBF.out.c2
    go_wp2
    refine ⟨by simp, .inl ⟨_, _, rfl, run_takeDeferred hK', ?_⟩⟩
    have hT := Turn.put0 (s := w3.heap.size) W (.deferred none)
    have e0 := (hT.cell (b := w.heap.size + 1) (i := 0) (by omega) hbl).trans b0
    have e1 := (hT.cell (b := w.heap.size + 1) (i := 1) (by omega) hbl).trans b1
    have hTB := Turn.below hbel hT (by omega) hbel.size
    clear hT b0 b1
    refine ⟨.tuple #[valLo (fo.getD (0, 0)), .bool fo.isSome], ?_, by rw [HFO.out], hTB⟩
    rw [results_cell_tmp rfl]
    rw [hz3] at e0 e1 ⊢
    go_simp
  · rintro c pre W _ h
    exact h.elim
end Go.Proofs.YtafdbgielmlihaaDoor
