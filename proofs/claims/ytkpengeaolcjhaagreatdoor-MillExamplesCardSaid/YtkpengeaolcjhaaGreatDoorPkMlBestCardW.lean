/- mill.first, at exchanges. -/
import Derived.Test.YtkpengeaolcjhaaGreatDoorPkMlBestCardV
import Derived.Test.YtkpengeaolcjhaaGreatDoorPkMlBestCardR
import Derived.Laws.ResultCell
import Derived.Test.YtkpengeaolcjhaaGreatDoorPkMlBestCardQ
import Derived.Test.YtkpengeaolcjhaaGreatDoorPkMlBestCardC
import Derived.Test.YtkpengeaolcjhaaGreatDoorPkMlBestCardS
import Derived.Test.YtkpengeaolcjhaaGreatDoorPkMlBestCardN
namespace Go.Proofs.YtkpengeaolcjhaaGreatDoor
open Go.RowKit Go.Shelf Go.Lib
set_option maxRecDepth 100000
set_option linter.unusedSimpArgs false
attribute [local go_sem] Oper.semAt_some

theorem store4 {wr W : World} {g : Nat} {t : TypeId} {x0 x1 x2 x3 : Value} (hg : wr.grownBy W (some g)) (h : Blk W g t #[x0, x1, x2, x3]) (y0 y1 y2 y3 : Value) :
    CR (fun W => CS wr g t 4 W) (fun W W' => RS g t #[y0, y1, y2, y3] W W') W ((((W.setCell ⟨g, 0, none⟩ y0).setCell ⟨g, 1, none⟩ y1).setCell ⟨g, 2, none⟩ y2).setCell ⟨g, 3, none⟩ y3) ∧ Blk ((((W.setCell ⟨g, 0, none⟩ y0).setCell ⟨g, 1, none⟩ y1).setCell ⟨g, 2, none⟩ y2).setCell ⟨g, 3, none⟩ y3) g t #[y0, y1, y2, y3] := by
  have hB : Blk ((((W.setCell ⟨g, 0, none⟩ y0).setCell ⟨g, 1, none⟩ y1).setCell ⟨g, 2, none⟩ y2).setCell ⟨g, 3, none⟩ y3) g t #[y0, y1, y2, y3] := by
    have := (((h.set_ 0 y0).set_ 1 y1).set_ 2 y2).set_ 3 y3
    simpa using this
  exact ⟨⟨⟨grown_set (grown_set (grown_set (grown_set hg (p := ⟨g, 0, none⟩) (.inl rfl) y0) (p := ⟨g, 1, none⟩) (.inl rfl) y1) (p := ⟨g, 2, none⟩) (.inl rfl) y2) (p := ⟨g, 3, none⟩) (.inl rfl) y3, _, hB, rfl⟩, grown_set (grown_set (grown_set (grown_set (World.grownBy.refl _ _) (p := ⟨g, 0, none⟩) (.inl rfl) y0) (p := ⟨g, 1, none⟩) (.inl rfl) y1) (p := ⟨g, 2, none⟩) (.inl rfl) y2) (p := ⟨g, 3, none⟩) (.inl rfl) y3, fun _ => hB⟩, hB⟩
set_option maxHeartbeats 2000000 in
theorem firstX_any {gf tf : FuncId} {lb tlb : Array Value} (eg : ∀ args w, (callFunc gf args).run Tryz.prog w = .ok (.enter gf args) w) (et : ∀ args w, (callFunc tf args).run Tryz.prog w = .ok (.enter tf args) w)
    {xs : List Exg} {ord : Exg → Exg → Int} {w : World} (hseq : ∀ w0, Ext w w0 → w.heap.size + 4 ≤ w0.heap.size → Seqs Tryz.prog gf lb w.heap.size (fun k => k = w.heap.size + 1 + 1 ∨ k = w.heap.size + 1 + 1 + 1) (fun (x : Exg) v _ => v = valX x) xs w0)
    (htest : ∀ x ∈ xs, ∀ y ∈ xs, ∀ W, Below w.heap.size w W → Calls Tryz.prog tf (#[valX x, valX y] ++ tlb) W fun e W' => e = .returned (.int .i64 (ord x y)) ∧ Ext W W') :
    Calls Tryz.prog 70 #[.func (.func gf) #[] lb, .func (.func tf) #[] tlb] w fun e w' => e = .returned (.tuple #[valX ((firstM (lessO ord) xs).getD (0, 0, 0, 0)), .bool (firstM (lessO ord) xs).isSome]) ∧ Below w.heap.size w w' := by
  refine calls_of_wp_marks Tryz.func70 rfl ?_
  simp only [Tryz.ntmps70, List.size_toArray, List.length_cons, List.length_nil, Nat.reduceAdd, Nat.reduceSub, Array.replicate_succ, Array.replicate_zero, List.push_toArray, List.append_toArray, List.nil_append, List.cons_append]
  go_wp2_with fail
  generalize hw3 : ((((w.alloc (.cells #[.func (.func tf) #[] tlb] 132)).alloc (.cells #[.int .i64 0, .int .i64 0, .int .i64 0, .int .i64 0] 123)).alloc (.cells #[.int .i64 0, .int .i64 0, .int .i64 0, .int .i64 0] 123)).alloc (.cells #[.bool false] 4)) = w3
  have E3 : Ext w w3 := by rw [← hw3]; exact (((Ext.al _ _).alloc _).alloc _).alloc _
  have hz3 : w3.heap.size = w.heap.size + 4 := by rw [← hw3]; simp
  have B0 : Blk w3 w.heap.size 132 #[.func (.func tf) #[] tlb] := by rw [← hw3]; exact (((Blk.new _ _ _).alloc _).alloc _).alloc _
  have BR : Blk w3 (w.heap.size + 1) 123 #[.int .i64 0, .int .i64 0, .int .i64 0, .int .i64 0] := by rw [← hw3]; exact ((Blk.at_ (by simp)).alloc _).alloc _
  have B1 : Blk w3 (w.heap.size + 1 + 1) 123 #[.int .i64 0, .int .i64 0, .int .i64 0, .int .i64 0] := by rw [← hw3]; exact (Blk.at_ (by simp)).alloc _
  have B2 : Blk w3 (w.heap.size + 1 + 1 + 1) 4 #[.bool false] := by rw [← hw3]; exact Blk.at_ (by simp)
  have hS0 := hseq w3 E3 (by omega)
  refine wp_rangeFuncB (by rfl) eg hS0 (Ext.refl _) (by omega)
    (fun pre W => Blk W w.heap.size 132 #[.func (.func tf) #[] tlb] ∧ Blk W (w.heap.size + 1 + 1) 123 #[.int .i64 ((firstM (lessO ord) pre).getD (0, 0, 0, 0)).1, .int .i64 ((firstM (lessO ord) pre).getD (0, 0, 0, 0)).2.1, .int .i64 ((firstM (lessO ord) pre).getD (0, 0, 0, 0)).2.2.1, .int .i64 ((firstM (lessO ord) pre).getD (0, 0, 0, 0)).2.2.2] ∧ Blk W (w.heap.size + 1 + 1 + 1) 4 #[.bool (firstM (lessO ord) pre).isSome] ∧ Below w.heap.size w W ∧ Blk W (w.heap.size + 1) 123 #[.int .i64 0, .int .i64 0, .int .i64 0, .int .i64 0])
    (fun _ _ _ => False)
    ?_ ?_ ?_ (fun x _ A W => ∃ g, w3.heap.size + 1 < g ∧ Blk W g 123 #[.int .i64 x.1, .int .i64 x.2.1, .int .i64 x.2.2.1, .int .i64 x.2.2.2] ∧ A = { tmps := #[.func (.func gf) #[] lb, .func (.func tf) #[] tlb, undef, .pointer (some ⟨w.heap.size, 0, none⟩), .pointer (some ⟨w.heap.size + 1, 0, none⟩), .bool false, .pointer (some ⟨w.heap.size + 1 + 1, 0, none⟩), .pointer (some ⟨w.heap.size + 1 + 1 + 1, 0, none⟩), .pointer (some ⟨g, 0, none⟩), .func (.func gf) #[] lb, valX x, undef, undef, undef, undef, undef, undef, undef, undef, undef, undef, undef, undef], defers := [] }) ?_ ?_ ?_ ?_ ?_
  · rintro pre A B ⟨h2, h3, h4, h5, h6⟩ hA hT
    exact ⟨h2.turn hT (by omega) (by omega), h3.turn hT (by omega) (by omega), h4.turn hT (by omega) (by omega), hT.below h5 (by omega) (by omega), h6.turn hT (by omega) (by omega)⟩
  · rintro c pre A B h
    exact h.elim
  · intro W hW
    exact ⟨B0.ext hW, B1.ext hW, B2.ext hW, E3.trans hW, BR.ext hW⟩
  · rintro x v A W W' ⟨g, h1, h2, h3⟩ _ hT
    exact ⟨g, h1, h2.turn hT (by omega) (by omega), h3⟩
  · rintro m l pre x v W K hi hv hpre hlt hK
    subst hv
    clear hi
    gi_wp2
    exact hK _ _ (Ext.al _ _) ⟨W.heap.size, by omega, Blk.new _ _ _, rfl⟩
  · rintro m l pre x v A W ⟨h2, h3, h4, h5, h6⟩ ⟨g, hg, hB, rfl⟩ hpre hlt hd hr
    have hx : x ∈ xs := by
      obtain ⟨q, hq⟩ := hpre
      rw [← hq]; simp
    have hpx : ∀ y ∈ pre, y ∈ xs := by
      obtain ⟨q, hq⟩ := hpre
      intro y hy
      rw [← hq]; simp [hy]
    have H2 := Lib.hid h2; have H3 := Lib.hid h3; have H4 := Lib.hid h4; have H5 := Lib.hid h5; have H6 := Lib.hid h6; have HBX := Lib.hid hB
    have HS := Lib.hid (firstM_snoc (lessO ord) pre x)
    obtain ⟨x0, -, l0⟩ := H2.out.c1
    obtain ⟨x1, x1', x12, x13, f1, l1⟩ := H3.out.c4
    obtain ⟨x2, f2, l2⟩ := H4.out.c1
    obtain ⟨y0, y1, y2, y3, yf, yl⟩ := HBX.out.c4
    have HLT := Lib.hid hlt; have HG := Lib.hid hg
    have HPX := Lib.hid hpx; have HXX := Lib.hid hx
    have HTE := Lib.hid htest
    clear hpre hd hr h2 h3 h4 h5 h6 hB B0 B1 B2 BR hseq hS0 hlt hpx hx htest
    cases hacc : firstM (lessO ord) pre with
    | none =>
      rw [hacc] at x1 x1' x12 x13 x2
      have HSN := Lib.hid (show firstM (lessO ord) (pre ++ [x]) = some x by rw [HS.out, hacc]; rfl)
      clear hacc
      simp only [Option.getD, Option.isSome] at x1 x1' x12 x13 x2
      gi_wp2
      refine ⟨fun _ h => (by cases h), ?_⟩
      gi_wp2
      have hw := H5.out.size
      have hlt := HLT.out
      have he := Below.size (Ext.refl W)
      refine ⟨(((((Keep.ext (Ext.refl W) hw).setCell (by dsimp only; omega) (.inl (by dsimp only)) _).setCell (by dsimp only; omega) (.inl (by dsimp only)) _).setCell (by dsimp only; omega) (.inl (by dsimp only)) _).setCell (by dsimp only; omega) (.inl (by dsimp only)) _).setCell (by dsimp only; omega) (.inr (by dsimp only)) _, ?_, ?_, (((((H2.out.ext (Ext.refl W)).far (by dsimp only; omega) _).far (by dsimp only; omega) _).far (by dsimp only; omega) _).far (by dsimp only; omega) _).far (by dsimp only; omega) _, ?_, ?_, (((((H5.out.trans (Below.mono (Ext.refl W) hw)).setCell (by dsimp only; omega) _).setCell (by dsimp only; omega) _).setCell (by dsimp only; omega) _).setCell (by dsimp only; omega) _).setCell (by dsimp only; omega) _, (((((H6.out.ext (Ext.refl W)).far (by dsimp only; omega) _).far (by dsimp only; omega) _).far (by dsimp only; omega) _).far (by dsimp only; omega) _).far (by dsimp only; omega) _⟩
      · exact (Below.heap_setCell _ _ _ _ (by dsimp only; omega)).trans ((Below.heap_setCell _ _ _ _ (by dsimp only; omega)).trans ((Below.heap_setCell _ _ _ _ (by dsimp only; omega)).trans ((Below.heap_setCell _ _ _ _ (by dsimp only; omega)).trans ((Below.heap_setCell _ _ _ _ (by dsimp only; omega)).trans (Below.block (Ext.refl W) _ (by omega))))))
      · exact (Below.heap_setCell _ _ _ _ (by dsimp only; omega)).trans ((Below.heap_setCell _ _ _ _ (by dsimp only; omega)).trans ((Below.heap_setCell _ _ _ _ (by dsimp only; omega)).trans ((Below.heap_setCell _ _ _ _ (by dsimp only; omega)).trans ((Below.heap_setCell _ _ _ _ (by dsimp only; omega)).trans (Below.block (Ext.refl W) _ (by omega))))))
      · rw [HSN.out]; exact (((((H3.out.ext (Ext.refl W)).set_ 0 _).set_ 1 _).set_ 2 _).set_ 3 _).far (by dsimp only; omega) _
      · rw [HSN.out]; exact (((((H4.out.ext (Ext.refl W)).far (by dsimp only; omega) _).far (by dsimp only; omega) _).far (by dsimp only; omega) _).far (by dsimp only; omega) _).set_ 0 _
    | some b =>
      rw [hacc] at x1 x1' x12 x13 x2
      have hb : b ∈ pre := by
        rcases firstM_mem (lessO ord) pre none b hacc with h | h
        · exact h
        · cases h
      have HTB := Lib.hid (HTE.out x HXX.out b (HPX.out b hb) W H5.out)
      have HSN := Lib.hid (show firstM (lessO ord) (pre ++ [x]) = if ord x b < 0 then some x else some b by
        rw [HS.out, hacc]; show (if lessO ord x b = true then _ else _) = _; by_cases h : ord x b < 0 <;> simp [h])
      have HAC := Lib.hid hacc
      clear hacc hb
      simp only [Option.getD, Option.isSome] at x1 x1' x12 x13 x2
      gi_wp2_with fail
      refine ⟨trivial, wide_depth _, ?_⟩
      refine (CallsIn.inRound l (callsIn_wide.2 HTB.out)).mono ?_
      rintro e W1 ⟨rfl, hE⟩
      have HE := Lib.hid hE
      clear hE x0 x1 x1' x12 x13 f1 l1 x2 f2 l2 y0 y1 y2 y3 yf yl
      obtain ⟨x1, x1', x12, x13, f1, l1⟩ := (H3.out.ext HE.out).c4
      obtain ⟨x2, f2, l2⟩ := (H4.out.ext HE.out).c1
      obtain ⟨y0, y1, y2, y3, yf, yl⟩ := (HBX.out.ext HE.out).c4
      by_cases hlt : ord x b < 0
      · have HSM := Lib.hid (show firstM (lessO ord) (pre ++ [x]) = some x by rw [HSN.out, if_pos hlt])
        gi_wp2
        have hw := H5.out.size
        have hlt := HLT.out
        have he := Below.size (HE.out)
        refine ⟨(((((Keep.ext (HE.out) hw).setCell (by dsimp only; omega) (.inl (by dsimp only)) _).setCell (by dsimp only; omega) (.inl (by dsimp only)) _).setCell (by dsimp only; omega) (.inl (by dsimp only)) _).setCell (by dsimp only; omega) (.inl (by dsimp only)) _).setCell (by dsimp only; omega) (.inr (by dsimp only)) _, ?_, ?_, (((((H2.out.ext (HE.out)).far (by dsimp only; omega) _).far (by dsimp only; omega) _).far (by dsimp only; omega) _).far (by dsimp only; omega) _).far (by dsimp only; omega) _, ?_, ?_, (((((H5.out.trans (Below.mono (HE.out) hw)).setCell (by dsimp only; omega) _).setCell (by dsimp only; omega) _).setCell (by dsimp only; omega) _).setCell (by dsimp only; omega) _).setCell (by dsimp only; omega) _, (((((H6.out.ext (HE.out)).far (by dsimp only; omega) _).far (by dsimp only; omega) _).far (by dsimp only; omega) _).far (by dsimp only; omega) _).far (by dsimp only; omega) _⟩
        · exact (Below.heap_setCell _ _ _ _ (by dsimp only; omega)).trans ((Below.heap_setCell _ _ _ _ (by dsimp only; omega)).trans ((Below.heap_setCell _ _ _ _ (by dsimp only; omega)).trans ((Below.heap_setCell _ _ _ _ (by dsimp only; omega)).trans ((Below.heap_setCell _ _ _ _ (by dsimp only; omega)).trans (Below.block (HE.out) _ (by omega))))))
        · exact (Below.heap_setCell _ _ _ _ (by dsimp only; omega)).trans ((Below.heap_setCell _ _ _ _ (by dsimp only; omega)).trans ((Below.heap_setCell _ _ _ _ (by dsimp only; omega)).trans ((Below.heap_setCell _ _ _ _ (by dsimp only; omega)).trans ((Below.heap_setCell _ _ _ _ (by dsimp only; omega)).trans (Below.block (HE.out) _ (by omega))))))
        · rw [HSM.out]; exact (((((H3.out.ext (HE.out)).set_ 0 _).set_ 1 _).set_ 2 _).set_ 3 _).far (by dsimp only; omega) _
        · rw [HSM.out]; exact (((((H4.out.ext (HE.out)).far (by dsimp only; omega) _).far (by dsimp only; omega) _).far (by dsimp only; omega) _).far (by dsimp only; omega) _).set_ 0 _
      · have HSM := Lib.hid (show firstM (lessO ord) (pre ++ [x]) = some b by rw [HSN.out, if_neg hlt])
        gi_wp2
        have hw := H5.out.size
        have hlt := HLT.out
        exact ⟨Keep.ext HE.out hw, HE.out.block _ (by omega), HE.out.block _ (by omega), H2.out.ext HE.out, by rw [HSM.out, ← HAC.out]; exact H3.out.ext HE.out, by rw [HSM.out, ← HAC.out]; exact H4.out.ext HE.out, H5.out.trans (HE.out.mono hw), H6.out.ext HE.out⟩
  · rintro V ⟨h2, h3, h4, h5, h6⟩ hlt hK
    obtain ⟨fo, hfo⟩ : ∃ fo, firstM (lessO ord) xs = fo := ⟨_, rfl⟩
    rw [hfo] at h3 h4
    have HFO := Lib.hid hfo
    clear hfo
    have H3 := Lib.hid h3; have H4 := Lib.hid h4; have H5 := Lib.hid h5; have HKK := Lib.hid hK; have H6 := Lib.hid h6
    clear h2 h3 h4 h5 h6 B0 B1 B2 BR hK hseq hS0 htest E3
    have hz := H5.out.size
    obtain ⟨a0, a1, a2, a3, -, -⟩ := H3.out.c4
    obtain ⟨d0, -, -⟩ := H4.out.c1
    have q0 := fun W (h : CS V (w.heap.size + 1) 123 4 W) => (h.cell (b := w.heap.size + 1 + 1) (by omega) (by omega) 0).trans a0
    have q1 := fun W (h : CS V (w.heap.size + 1) 123 4 W) => (h.cell (b := w.heap.size + 1 + 1) (by omega) (by omega) 1).trans a1
    have q3 := fun W (h : CS V (w.heap.size + 1) 123 4 W) => (h.cell (b := w.heap.size + 1 + 1) (by omega) (by omega) 2).trans a2
    have q4 := fun W (h : CS V (w.heap.size + 1) 123 4 W) => (h.cell (b := w.heap.size + 1 + 1) (by omega) (by omega) 3).trans a3
    have q2 := fun W (h : CS V (w.heap.size + 1) 123 4 W) => (h.cell (b := w.heap.size + 1 + 1 + 1) (by omega) (by omega) 0).trans d0
    have HST := Lib.hid (CS.start H6.out)
    clear a0 a1 a2 a3 d0
    go_wp2
    refine wp_region_tame (fun W => CS V (w.heap.size + 1) 123 4 W) (fun W W' => RS (w.heap.size + 1) 123 #[.int .i64 (fo.getD (0, 0, 0, 0)).1, .int .i64 (fo.getD (0, 0, 0, 0)).2.1, .int .i64 (fo.getD (0, 0, 0, 0)).2.2.1, .int .i64 (fo.getD (0, 0, 0, 0)).2.2.2] W W') (by kernel_rfl) 23 rfl (by decide +kernel) HST.out ?_
    repeat
      (apply tame_q rfl
       (intro ρ W hC hr hD
        obtain ⟨hrc, hrg, hrf, hrs⟩ := hr
        simp [go_sem] at hD
        go_simp
        first | exact ⟨⟨hC, RS.refl _⟩, rfl⟩ | exact rfl)
       simp only [List.nil_append, List.cons_append])
    apply tame_n (fun _ W => Blk W (w.heap.size + 1) 123 #[.int .i64 (fo.getD (0, 0, 0, 0)).1, .int .i64 (fo.getD (0, 0, 0, 0)).2.1, .int .i64 (fo.getD (0, 0, 0, 0)).2.2.1, .int .i64 (fo.getD (0, 0, 0, 0)).2.2.2]) (fun _ W W' _ hR h => hR.2 h)
    · intro ρ W hC hr hD
      obtain ⟨hrc, hrg, hrf, hrs⟩ := hr
      simp [go_sem] at hD
      obtain ⟨hg1, cs0, hB, hsz⟩ := hC
      obtain ⟨cs0⟩ := cs0
      obtain ⟨x0, x1, x2, x3, rfl⟩ : ∃ x0 x1 x2 x3, cs0 = [x0, x1, x2, x3] := by
        match cs0, hsz with
        | [x0, x1, x2, x3], _ => exact ⟨_, _, _, _, rfl⟩
      obtain ⟨b0, b1, b2, b3, bf, bl⟩ := hB.c4
      have HB := Lib.hid hB; have HG1 := Lib.hid hg1; clear hB hg1
      go_simp
      exact store4 HG1.out HB.out _ _ _ _
    simp only [List.nil_append, List.cons_append]
    repeat
      (apply tame_q rfl
       (intro ρ W hC hr hD
        obtain ⟨hrc, hrg, hrf, hrs⟩ := hr
        simp [go_sem] at hD
        go_simp
        first | exact ⟨⟨hC, RS.refl _⟩, rfl⟩ | exact rfl)
       simp only [List.nil_append, List.cons_append])
    refine tame_end 23 rfl rfl (fun ρ W hC hr hF => ?_)
    obtain ⟨hrc, hrg, hrf, hrs⟩ := hr
    have hBF : Blk W (w.heap.size + 1) 123 #[.int .i64 (fo.getD (0, 0, 0, 0)).1, .int .i64 (fo.getD (0, 0, 0, 0)).2.1, .int .i64 (fo.getD (0, 0, 0, 0)).2.2.1, .int .i64 (fo.getD (0, 0, 0, 0)).2.2.2] := hF.2.2.1
    have HBF := Lib.hid hBF; clear hBF
    simp [go_sem] at hF
    apply frame_to
    · go_simp
      exact rfl
    clear hF hrs hrc hrg hrf
    have HC := Lib.hid hC.1
    clear hC q0 q1 q2 q3 q4
    have hK' := (HC.out.block w3.heap.size (by omega) (by intro e; injection e with e; omega)).trans HKK.out
    have hbel : Below w.heap.size w W := H5.out.grown HC.out (by omega) (fun k e => by injection e with e; omega)
    obtain ⟨b0, b1, b2, b3, -, hbl⟩ := HBF.out.c4
    go_wp2
    refine ⟨by simp, .inl ⟨_, _, rfl, run_takeDeferred hK', ?_⟩⟩
    have hT := Turn.put0 (s := w3.heap.size) W (.deferred none)
    have e0 := (hT.cell (b := w.heap.size + 1) (i := 0) (by omega) hbl).trans b0
    have e1 := (hT.cell (b := w.heap.size + 1) (i := 1) (by omega) hbl).trans b1
    have e2 := (hT.cell (b := w.heap.size + 1) (i := 2) (by omega) hbl).trans b2
    have e3 := (hT.cell (b := w.heap.size + 1) (i := 3) (by omega) hbl).trans b3
    have hTB := Turn.below hbel hT (by omega) hbel.size
    clear hT b0 b1 b2 b3
    refine ⟨.tuple #[valX (fo.getD (0, 0, 0, 0)), .bool fo.isSome], ?_, by rw [HFO.out], hTB⟩
    rw [results_cell_tmp rfl]
    rw [hz3] at e0 e1 e2 e3 ⊢
    go_simp
  · rintro c pre W _ h
    exact h.elim
end Go.Proofs.YtkpengeaolcjhaaGreatDoor
/- The reference's allowed. -/
namespace Go.Proofs.YtkpengeaolcjhaaGreatDoor
open Go.RowKit Go.Shelf Go.Lib
set_option maxRecDepth 100000
set_option linter.unusedSimpArgs false

/-- What stands still while allowed walks over the plan. -/
structure JaS (lots size : Int) (A : Option Addr) (n c fb : Nat) (w : World) (f0 f1 f2 f3 : Int) (W : World) : Prop where
  e : Ext w W
  b : Blk W w.heap.size 24 #[.int .i64 lots, .int .i64 size, .slice A n c]
  f : Blk W fb 77 #[.int .i64 f0, .int .i64 f1, .int .i64 f2, .int .i64 f3]
section
variable {lots size : Int} {A : Option Addr} {n c fb : Nat} {w : World} {f0 f1 f2 f3 : Int} {W : World}
theorem JaS.ext {W' : World} (h : JaS lots size A n c fb w f0 f1 f2 f3 W) (e : Ext W W') : JaS lots size A n c fb w f0 f1 f2 f3 W' := ⟨h.e.trans e, h.b.ext e, h.f.ext e⟩
theorem JaS.put0 (h : JaS lots size A n c fb w f0 f1 f2 f3 W) (h2 : w.heap.size < fb) (y : Int) : JaS lots size A n c fb w y f1 f2 f3 (W.setCell ⟨fb, 0, none⟩ (.int .i64 y)) :=
  ⟨h.e.setCell (by dsimp only; omega) _, h.b.far (by dsimp only; omega) _, by have := h.f.set_ 0 (.int .i64 y); simpa using this⟩
theorem JaS.put1 (h : JaS lots size A n c fb w f0 f1 f2 f3 W) (h2 : w.heap.size < fb) (y : Int) : JaS lots size A n c fb w f0 y f2 f3 (W.setCell ⟨fb, 1, none⟩ (.int .i64 y)) :=
  ⟨h.e.setCell (by dsimp only; omega) _, h.b.far (by dsimp only; omega) _, by have := h.f.set_ 1 (.int .i64 y); simpa using this⟩
theorem JaS.put2 (h : JaS lots size A n c fb w f0 f1 f2 f3 W) (h2 : w.heap.size < fb) (y : Int) : JaS lots size A n c fb w f0 f1 y f3 (W.setCell ⟨fb, 2, none⟩ (.int .i64 y)) :=
  ⟨h.e.setCell (by dsimp only; omega) _, h.b.far (by dsimp only; omega) _, by have := h.f.set_ 2 (.int .i64 y); simpa using this⟩
theorem JaS.put3 (h : JaS lots size A n c fb w f0 f1 f2 f3 W) (h2 : w.heap.size < fb) (y : Int) : JaS lots size A n c fb w f0 f1 f2 y (W.setCell ⟨fb, 3, none⟩ (.int .i64 y)) :=
  ⟨h.e.setCell (by dsimp only; omega) _, h.b.far (by dsimp only; omega) _, by have := h.f.set_ 3 (.int .i64 y); simpa using this⟩
end
end Go.Proofs.YtkpengeaolcjhaaGreatDoor
/- Judge, of both. -/
namespace Go.Proofs.YtkpengeaolcjhaaGreatDoor
open Go.RowKit Go.Shelf Go.Lib
set_option maxRecDepth 100000
set_option linter.unusedSimpArgs false

theorem judgeE_zero {m : Mll} {p : List Int} (h : judgeE m p = 0) : checkM m = true ∧ okPlan m p = true := by
  unfold judgeE at h
  cases hc : checkM m
  · rw [hc] at h; simp at h
  · cases ho : okPlan m p
    · rw [hc, ho] at h; simp at h
    · exact ⟨rfl, rfl⟩
def judU (m : Mll) (p : List Int) : Int × Int := if judgeE m p = 0 then unev m p else (0, 0)
theorem judU_ok {m : Mll} {p : List Int} (h : judgeE m p = 0) : judU m p = unev m p := if_pos h
theorem judU_no {m : Mll} {p : List Int} (h : judgeE m p ≠ 0) : judU m p = (0, 0) := if_neg h
set_option maxHeartbeats 4000000 in
theorem judgeM_any (lots size : Int) (l : List Rc) (p : List Int) (sv pv : Value) (w : World) (hT : TabM w) (hs : MlC w sv l) (hp : SlI w pv p) (hlen : l.length ≤ 1000) :
    Calls Tryz.prog 28 #[valM lots size sv, pv] w fun e w' => e = .returned (.tuple #[.int .i64 (judU (mOf lots size l) p).1, .int .i64 (judU (mOf lots size l) p).2, .int .i64 (judgeE (mOf lots size l) p)]) ∧ Ext w w' := by
  have HS := Lib.hid hs; have HT := Lib.hid hT; have HLN := Lib.hid hlen; have HP := Lib.hid hp
  obtain ⟨A, n, c, rfl, hn, hlc, hcm⟩ := hs.1.form
  obtain ⟨A2, n2, c2, rfl, hn2, hlc2, hcm2⟩ := hp.form
  clear hs hT hn hn2 hp hlen
  go_enter Tryz.func28, Tryz.ntmps28
  go_wp2_with fail
  have E0 := Lib.hid (Ext.al w (.cells #[.int .i64 lots, .int .i64 size, .slice A n c] 24))
  refine (judged_any lots size l p _ _ _ (HT.out.ext E0.out) (HS.out.ext E0.out) (HP.out.ext E0.out) HLN.out).mono ?_
  rintro e w1 ⟨⟨tv, rfl, hJ⟩, hE⟩
  have E1 := Lib.hid (E0.out.trans hE)
  clear hE E0
  rcases hJ with ⟨h0, m, nn, rfl, hmp⟩ | ⟨h0, rfl⟩
  · have H0 := Lib.hid h0
    obtain ⟨hc, hok⟩ := judgeE_zero h0
    have hm := mok_of hc
    obtain ⟨lt, rfl⟩ := lots_nat hc
    have HM := Lib.hid hm
    have HPO := Lib.hid (pok_of hm (plan_of_ok hm hok))
    rw [h0]
    clear h0 hc hok hm hmp
    go_wp2_with fail
    refine (of_any lt size l p _ _ (some m) _ HM.out (HS.out.1.ext (E1.out.alloc _)) (HP.out.ext (E1.out.alloc _)) HPO.out).mono ?_
    rintro e w2 ⟨rfl, hE⟩
    have HE2 := Lib.hid ((E1.out.alloc _).trans hE)
    clear hE
    obtain ⟨u, hu⟩ : ∃ u, unev (mOf lt size l) p = u := ⟨_, rfl⟩
    rw [hu]
    have HU := Lib.hid hu
    clear hu
    go_wp2
    obtain ⟨w4, hw4⟩ : ∃ w4, w4 = w2.alloc (.cells #[.int .i64 u.1, .int .i64 u.2] 106) := ⟨_, rfl⟩
    rw [← hw4]
    have E4 := Lib.hid (show Ext w w4 from hw4 ▸ HE2.out.alloc _)
    have HB4 := Lib.hid (show Blk w4 w2.heap.size 106 #[.int .i64 u.1, .int .i64 u.2] from hw4 ▸ Blk.new _ _ _)
    clear hw4
    have q0 := fun V (h : Ext w4 V) => (HB4.out.ext h).c2.1
    have q1 := fun V (h : Ext w4 V) => (HB4.out.ext h).c2.2.1
    refine wp_region_tame (fun W => Ext w4 W) (fun W W' => Ext W W') (by kernel_rfl) 25 rfl (by decide +kernel) (Ext.refl _).drew ?_
    repeat (apply tame_q rfl; (intro ρ W hC hr hD; (obtain ⟨hrc, hrg, hrf, hrs⟩ := hr); (simp [go_sem] at hD); go_simp; first | exact ⟨⟨hC, Ext.refl _⟩, rfl⟩ | exact ⟨⟨hC, RS.refl _⟩, rfl⟩ | exact rfl); simp only [List.nil_append, List.cons_append])
    refine tame_end 25 rfl rfl (fun ρ W hC hr hF => ?_)
    obtain ⟨hrc, hrg, hrf, hrs⟩ := hr
    simp [go_sem] at hF
    apply frame_to
    · go_simp
      exact rfl
    clear hF hrs hrc hrg hrf
    have HC := Lib.hid (E4.out.trans hC)
    clear hC q0 q1
    go_wp2
    refine bodyPost_ret (v := .tuple #[.int .i64 (judU (mOf lt size l) p).1, .int .i64 (judU (mOf lt size l) p).2, .int .i64 (judgeE (mOf lt size l) p)]) (by rw [judU_ok H0.out, H0.out, HU.out]; simp [results, Tryz.results28, go_sem]) rfl ?_
    exact ⟨rfl, HC.out⟩
  · have H0 := Lib.hid h0
    obtain ⟨er, HER⟩ : ∃ er, Hid (judgeE (mOf lots size l) p = er) := ⟨_, Lib.hid rfl⟩
    rw [HER.out] at h0 ⊢
    go_wp2
    refine bodyPost_ret (v := .tuple #[.int .i64 (judU (mOf lots size l) p).1, .int .i64 (judU (mOf lots size l) p).2, .int .i64 er]) (by rw [judU_no H0.out]; simp [results, Tryz.results28, go_sem]) rfl ?_
    exact ⟨by rw [HER.out], E1.out.alloc _⟩
end Go.Proofs.YtkpengeaolcjhaaGreatDoor
/- mill.Swap. -/
namespace Go.Proofs.YtkpengeaolcjhaaGreatDoor
open Go.RowKit Go.Shelf Go.Lib
set_option maxRecDepth 100000
set_option linter.unusedSimpArgs false

/-- The number of a bale. -/
def idAt (m : Mll) (i : Nat) : Int := (idsL m)[i]?.getD 0
def swapE (m : Mll) (p : List Int) : Int := if judgeE m p = 0 then (if (exR m p).1.isSome then 0 else 6) else judgeE m p
def swapO (m : Mll) (p : List Int) : Int × Int := if judgeE m p = 0 then (match (exR m p).1 with | some x => (idAt m x.1, idAt m x.2.1) | none => (0, 0)) else (0, 0)
theorem swap_no {m : Mll} {p : List Int} (h : judgeE m p ≠ 0) : swapE m p = judgeE m p ∧ swapO m p = (0, 0) := ⟨if_neg h, if_neg h⟩
theorem swap_none {m : Mll} {p : List Int} (h : judgeE m p = 0) (h2 : (exR m p).1 = none) : swapE m p = 6 ∧ swapO m p = (0, 0) := by
  unfold swapE swapO
  rw [if_pos h, if_pos h, h2]
  exact ⟨rfl, rfl⟩
theorem swap_some {m : Mll} {p : List Int} {x : Exg} (h : judgeE m p = 0) (h2 : (exR m p).1 = some x) : swapE m p = 0 ∧ swapO m p = (idAt m x.1, idAt m x.2.1) := by
  unfold swapE swapO
  rw [if_pos h, if_pos h, h2]
  exact ⟨rfl, rfl⟩
theorem exL_mem {m : Mll} {p : List Int} {x : Exg} (h : x ∈ exL m p) : x.1 < p.length ∧ x.2.1 < p.length := by
  unfold exL exAll at h
  have h := (List.mem_filter.1 h).1
  obtain ⟨i, hi, h⟩ := List.mem_flatMap.1 h
  obtain ⟨k, hk, h⟩ := List.mem_flatMap.1 h
  rw [List.mem_range] at hi hk
  split at h
  · simp at h
    subst h
    exact ⟨hi, hk⟩
  · simp at h
theorem exR_mem {m : Mll} {p : List Int} {x : Exg} (h : (exR m p).1 = some x) : x.1 < p.length ∧ x.2.1 < p.length := by
  rw [← exL_first] at h
  rcases firstM_mem _ (exL m p) none x h with h | h
  · exact exL_mem h
  · cases h
theorem idAt_of {lots size : Int} {l : List Rc} {i : Nat} {r : Rc} (h : l[i]? = some r) : idAt (mOf lots size l) i = r.c.b.id := by
  unfold idAt idsL
  show ((l.map (·.c)).map (·.b.id))[i]?.getD 0 = _
  rw [List.map_map, List.getElem?_map, h]
  rfl
set_option maxHeartbeats 4000000 in
theorem swapM_any (lots size : Int) (l : List Rc) (p : List Int) (sv pv : Value) (w : World) (hT : TabM w) (hs : MlC w sv l) (hp : SlI w pv p) (hlen : l.length ≤ 1000) :
    Calls Tryz.prog 31 #[valM lots size sv, pv] w fun e w' => e = .returned (.tuple #[.int .i64 (swapO (mOf lots size l) p).1, .int .i64 (swapO (mOf lots size l) p).2, .int .i64 (swapE (mOf lots size l) p)]) ∧ Ext w w' := by
  have HS := Lib.hid hs; have HT := Lib.hid hT; have HLN := Lib.hid hlen; have HP := Lib.hid hp
  obtain ⟨A, n, c, rfl, hn, hlc, hcm⟩ := hs.1.form
  obtain ⟨A2, n2, c2, rfl, hn2, hlc2, hcm2⟩ := hp.form
  have HNL := Lib.hid (show l.length = n from hn.out.symm)
  clear hs hT hn hn2 hp hlen
  go_enter Tryz.func31, Tryz.ntmps31
  go_wp2_with fail
  have E0 := Lib.hid (Ext.al w (.cells #[.int .i64 lots, .int .i64 size, .slice A n c] 24))
  have B0 := Lib.hid (Blk.new w 24 #[.int .i64 lots, .int .i64 size, .slice A n c])
  refine (judged_any lots size l p _ _ _ (HT.out.ext E0.out) (HS.out.ext E0.out) (HP.out.ext E0.out) HLN.out).mono ?_
  rintro e w1 ⟨⟨tv, rfl, hJ⟩, hE⟩
  have E1 := Lib.hid (E0.out.trans hE)
  have B1 := Lib.hid (B0.out.ext hE)
  clear hE E0 B0
  rcases hJ with ⟨h0, m, nn, rfl, hmp⟩ | ⟨h0, rfl⟩
  · have H0 := Lib.hid h0
    obtain ⟨hc, hok⟩ := judgeE_zero h0
    have hm := mok_of hc
    obtain ⟨lt, rfl⟩ := lots_nat hc
    have HM := Lib.hid hm
    have HOK := Lib.hid hok
    have HPO := Lib.hid (pok_of hm (plan_of_ok hm hok))
    have HMP := Lib.hid hmp
    rw [h0]
    clear h0 hc hok hm hmp
    go_wp2_with fail
    obtain ⟨w2, hw2⟩ : ∃ w2, w2 = w1.alloc (.cells #[.int .i64 (lt : Int), .int .i64 size, .slice A n c, .map (some m)] 95) := ⟨_, rfl⟩
    rw [← hw2]
    have E2 := Lib.hid (show Ext w w2 from hw2 ▸ E1.out.alloc _)
    have M2 := Lib.hid (show Ext w1 w2 from hw2 ▸ Ext.al _ _)
    have B2 := Lib.hid (show Blk w2 w.heap.size 24 #[.int .i64 (lt : Int), .int .i64 size, .slice A n c] from hw2 ▸ B1.out.alloc _)
    clear hw2
    refine (exchanges_any lt size l p A A2 n c n2 c2 m _ HM.out (HS.out.1.ext E2.out) (HP.out.ext E2.out) HPO.out).mono ?_
    rintro e w3 ⟨⟨bu, rfl, hbu, hb1, hb2, hb3⟩, hE⟩
    have E3 := Lib.hid (E2.out.trans hE)
    have B3 := Lib.hid (B2.out.ext hE)
    have HSQ := Lib.hid (exchanges1_seqs (X := fun k => k = w3.heap.size + 1 + 1 ∨ k = w3.heap.size + 1 + 1 + 1) HM.out HOK.out (HS.out.1.ext E3.out) (HP.out.ext E3.out) hb2 hb1 hb3 ((HMP.out.ext M2.out).ext hE))
    clear hE hbu hb1 hb2 hb3
    go_wp2_with fail
    have hfi := firstX_any (gf := 109) (tf := 72) (lb := #[.pointer (some ⟨w2.heap.size + 1, 0, none⟩), .pointer (some ⟨w2.heap.size, 0, none⟩), .pointer (some ⟨bu, 0, none⟩)]) (tlb := #[]) (enters_of Tryz.func109 (by kernel_rfl) rfl) (enters_of Tryz.func72 (by kernel_rfl) rfl)
      (xs := exL (mOf lt size l) p) (ord := ordX) (w := w3) (fun w0 hE0 _ => fun l' J Jx W hW => HSQ.out l' J Jx W (hE0.trans hW)) (fun x _ y _ W _ => by simpa using f72_any x y W)
    rw [exL_first] at hfi
    have HFI := Lib.hid hfi
    clear hfi
    refine HFI.out.mono ?_
    rintro e w4 ⟨rfl, hE⟩
    have E4 := Lib.hid (E3.out.trans hE)
    have B4 := Lib.hid (B3.out.ext hE)
    clear hE
    cases hx : (exR (mOf lt size l) p).1 with
    | none =>
      have HN := Lib.hid (swap_none H0.out hx)
      simp only [Option.getD, Option.isSome]
      clear hx
      go_wp2
      refine bodyPost_ret (v := .tuple #[.int .i64 0, .int .i64 0, .int .i64 6]) (by simp [results, Tryz.results31, go_sem]) rfl ?_
      exact ⟨by rw [HN.out.1, HN.out.2], E4.out.alloc _⟩
    | some x =>
      have HN := Lib.hid (swap_some H0.out hx)
      have HXM := Lib.hid (exR_mem hx)
      obtain ⟨i, k, u1, u2⟩ := x
      simp only [Option.getD, Option.isSome]
      have hin : i < n := by have h := HXM.out.1; simp only at h; have := HPO.out.len; have := HNL.out; omega
      have hkn : k < n := by have h := HXM.out.2; simp only at h; have := HPO.out.len; have := HNL.out; omega
      have hiz : (i : Int) < (n : Int) := by omega
      have hkz : (k : Int) < (n : Int) := by omega
      clear hx
      go_wp2_with fail
      obtain ⟨w5, hw5⟩ : ∃ w5, w5 = w4.alloc (.cells #[.int .i64 (i : Int), .int .i64 (k : Int), .int .i64 u1, .int .i64 u2] 123) := ⟨_, rfl⟩
      rw [← hw5]
      have E5 := Lib.hid (show Ext w w5 from hw5 ▸ E4.out.alloc _)
      have B5 := Lib.hid (show Blk w5 w.heap.size 24 #[.int .i64 (lt : Int), .int .i64 size, .slice A n c] from hw5 ▸ B4.out.alloc _)
      have X5 := Lib.hid (show Blk w5 w4.heap.size 123 #[.int .i64 (i : Int), .int .i64 (k : Int), .int .i64 u1, .int .i64 u2] from hw5 ▸ Blk.new _ _ _)
      clear hw5
      obtain ⟨bo, off, x, e1, hx, -, hcell⟩ := HS.out.1.at_ hin
      obtain ⟨b2, off2, y, e2, hy, -, hcell2⟩ := HS.out.1.at_ hkn
      subst e1
      injection e2 with e2
      injection e2 with e21 e22
      subst e21 e22
      have HIX := Lib.hid (idAt_of (lots := (lt : Int)) (size := size) hx)
      have HIY := Lib.hid (idAt_of (lots := (lt : Int)) (size := size) hy)
      have m0 := fun V (h : Ext w5 V) => (B5.out.ext h).c3.2.2.1
      have m1 := fun V (h : Ext w5 V) => (X5.out.ext h).c4.1
      have m2 := fun V (h : Ext w5 V) => (X5.out.ext h).c4.2.1
      have m3 := fun V (h : Ext w5 V) => (SlC.cells hcell (E5.out.trans h)).1
      have m4 := fun V (h : Ext w5 V) => (SlC.cells hcell2 (E5.out.trans h)).1
      clear hx hy hcell hcell2
      refine wp_region_tame (fun W => Ext w5 W) (fun W W' => Ext W W') (by kernel_rfl) 44 rfl (by decide +kernel) (Ext.refl _).drew ?_
      repeat (apply tame_q rfl; (intro ρ W hC hr hD; (obtain ⟨hrc, hrg, hrf, hrs⟩ := hr); (simp [go_sem] at hD); go_simp; first | exact ⟨⟨hC, Ext.refl _⟩, rfl⟩ | exact ⟨⟨hC, RS.refl _⟩, rfl⟩ | exact rfl); simp only [List.nil_append, List.cons_append])
      refine tame_end 44 rfl rfl (fun ρ W hC hr hF => ?_)
      obtain ⟨hrc, hrg, hrf, hrs⟩ := hr
      simp [go_sem] at hF
      apply frame_to
      · go_simp
        exact rfl
      clear hF hrs hrc hrg hrf
      have HC := Lib.hid (E5.out.trans hC)
      clear hC m0 m1 m2 m3 m4
      go_wp2
      refine bodyPost_ret (v := .tuple #[.int .i64 x.c.b.id, .int .i64 y.c.b.id, .int .i64 0]) (by simp [results, Tryz.results31, go_sem]) rfl ?_
      exact ⟨by rw [HN.out.1, HN.out.2]; simp only [HIX.out, HIY.out], HC.out⟩
  · have H0 := Lib.hid h0
    obtain ⟨er, HER⟩ : ∃ er, Hid (judgeE (mOf lots size l) p = er) := ⟨_, Lib.hid rfl⟩
    have HN := Lib.hid (swap_no h0)
    rw [HER.out] at h0 HN ⊢
    go_wp2
    refine bodyPost_ret (v := .tuple #[.int .i64 0, .int .i64 0, .int .i64 er]) (by simp [results, Tryz.results31, go_sem]) rfl ?_
    exact ⟨by rw [HN.out.1, HN.out.2], E1.out.alloc _⟩
end Go.Proofs.YtkpengeaolcjhaaGreatDoor
/- Lists of lists, read; mill's Lots; the reference's SameLists. -/
namespace Go.Proofs.YtkpengeaolcjhaaGreatDoor
open Go.RowKit Go.Shelf Go.Lib
set_option maxRecDepth 100000
set_option linter.unusedSimpArgs false

abbrev Tri := Option Addr × Nat × Nat
abbrev encT (t : Tri) : List Value := [.slice t.1 t.2.1 t.2.2]
def triV : Value → Tri
  | .slice a n c => (a, n, c)
  | _ => (none, 0, 0)
/-- The value reads as the list of lists L. -/
def RdLL (W : World) (v : Value) (L : List (List Int)) : Prop :=
  ∃ ts : List Tri, Sl encT 1 W v ts ∧ ts.length = L.length ∧ ∀ (i : Nat) (t : Tri) (l : List Int), ts[i]? = some t → L[i]? = some l → SlI W (.slice t.1 t.2.1 t.2.2) l
theorem RdLL.ext {W W' : World} {v : Value} {L : List (List Int)} (h : RdLL W v L) (e : Ext W W') : RdLL W' v L := by
  obtain ⟨ts, h1, h2, h3⟩ := h
  exact ⟨ts, h1.ext e, h2, fun i t l k1 k2 => (h3 i t l k1 k2).ext e⟩
theorem RdLL.nil (W : World) : RdLL W (.slice none 0 0) [] := ⟨[], Sl.nil W, rfl, fun i t l h => by simp at h⟩
theorem LLs.rd {base go : Nat} {vs : List Value} {L : List (List Int)} {W : World} (h : LLs base go vs L W) (hl : L.length ≤ 1000) : RdLL W (.slice (some ⟨go, 0, none⟩) L.length L.length) L := by
  have hs : ∀ (i : Nat) (v : Value), vs[i]? = some v → ∃ l, L[i]? = some l ∧ v = .slice (triV v).1 (triV v).2.1 (triV v).2.2 ∧ SlI W v l := by
    intro i v hv
    have hi := (List.getElem?_eq_some_iff.1 hv).1
    obtain ⟨l, hl⟩ : ∃ l, L[i]? = some l := ⟨_, List.getElem?_eq_getElem (by have := h.len; omega)⟩
    have ho := h.own i v l hv hl
    obtain ⟨A, c, rfl, -⟩ := ho.2
    exact ⟨l, hl, rfl, ho.1.sl (fun _ => rfl)⟩
  refine ⟨vs.map triV, ⟨some ⟨go, 0, none⟩, L.length, by rw [List.length_map, h.len], by rw [List.length_map, h.len]; exact Nat.le_refl _, by unfold maxLen; omega, fun _ => ⟨go, 0, rfl, h.row.lt, fun k t hk j u hu => ?_⟩⟩, by rw [List.length_map, h.len], fun i t l ht hL => ?_⟩
  · rw [List.getElem?_map] at hk
    obtain ⟨v, hv, rfl⟩ := Option.map_eq_some_iff.1 hk
    obtain ⟨l, -, e, -⟩ := hs k v hv
    match j, hu with
    | 0, hu =>
      simp only [List.getElem?_cons_zero, Option.some.injEq] at hu
      rw [← e] at hu
      subst hu
      have := h.row.cell k
      simp only [Nat.zero_add, Nat.mul_one, Nat.add_zero]
      rw [this]
      simpa using hv
    | j + 1, hu => simp at hu
  · rw [List.getElem?_map] at ht
    obtain ⟨v, hv, rfl⟩ := Option.map_eq_some_iff.1 ht
    obtain ⟨l', h1, e, h2⟩ := hs i v hv
    rw [hL] at h1
    injection h1 with h1
    subst h1
    rw [← e]
    exact h2
def lotsP (m : Mll) (p : List Int) : List (List Int) := if judgeE m p = 0 then lotsL m.lots p (idsL m) else []
theorem lotsP_ok {m : Mll} {p : List Int} (h : judgeE m p = 0) : lotsP m p = lotsL m.lots p (idsL m) := if_pos h
theorem lotsP_no {m : Mll} {p : List Int} (h : judgeE m p ≠ 0) : lotsP m p = [] := if_neg h
theorem f77_any (r : Rc) (w : World) : Calls Tryz.prog 77 #[valC r] w fun e w' => e = .returned (.int .i64 r.c.b.id) ∧ Ext w w' := by
  go_enter Tryz.func77, Tryz.ntmps77
  go_wp2
  go_ret
  exact ⟨rfl, Ext.al _ _⟩
set_option maxHeartbeats 4000000 in
theorem lotsM_any (lots size : Int) (l : List Rc) (p : List Int) (sv pv : Value) (w : World) (hT : TabM w) (hs : MlC w sv l) (hp : SlI w pv p) (hlen : l.length ≤ 1000) :
    Calls Tryz.prog 37 #[valM lots size sv, pv] w fun e w' => (∃ v, e = .returned (.tuple #[v, .int .i64 (judgeE (mOf lots size l) p)]) ∧ RdLL w' v (lotsP (mOf lots size l) p)) ∧ Ext w w' := by
  have HS := Lib.hid hs; have HT := Lib.hid hT; have HLN := Lib.hid hlen; have HP := Lib.hid hp
  obtain ⟨A, n, c, rfl, hn, hlc, hcm⟩ := hs.1.form
  obtain ⟨A2, n2, c2, rfl, hn2, hlc2, hcm2⟩ := hp.form
  clear hs hT hn hn2 hp hlen
  go_enter Tryz.func37, Tryz.ntmps37
  go_wp2_with fail
  have E0 := Lib.hid (Ext.al w (.cells #[.int .i64 lots, .int .i64 size, .slice A n c] 24))
  refine (judged_any lots size l p _ _ _ (HT.out.ext E0.out) (HS.out.ext E0.out) (HP.out.ext E0.out) HLN.out).mono ?_
  rintro e w1 ⟨⟨tv, rfl, hJ⟩, hE⟩
  have E1 := Lib.hid (E0.out.trans hE)
  clear hE E0
  rcases hJ with ⟨h0, m, nn, rfl, hmp⟩ | ⟨h0, rfl⟩
  · have H0 := Lib.hid h0
    obtain ⟨hc, hok⟩ := judgeE_zero h0
    have hm := mok_of hc
    obtain ⟨lt, rfl⟩ := lots_nat hc
    have HM := Lib.hid hm
    have HPO := Lib.hid (pok_of hm (plan_of_ok hm hok))
    have hl3 : lt ≤ 3 := by have h : (lt : Int) ≤ 3 := hm.l3; omega
    rw [h0]
    clear h0 hc hok hm hmp
    go_wp2_with fail
    refine (each_any lt size l p _ _ (some m) (fun r => r.c.b.id) 77 #[] (enters_of Tryz.func77 (by kernel_rfl) rfl) _ (fun W r _ _ => f77_any r W) (HS.out.1.ext (E1.out.alloc _)) (HP.out.ext (E1.out.alloc _)) HPO.out.len HPO.out.rng hl3 HLN.out).mono ?_
    rintro e w2 ⟨⟨go, vs, rfl, -, hll⟩, hE⟩
    have HE2 := Lib.hid ((E1.out.alloc _).trans hE)
    have HR := Lib.hid (show RdLL w2 (.slice (some ⟨go, 0, none⟩) lt lt) (lotsP (mOf lt size l) p) by
      have hn : (lotsL (lt : Int) p (l.map fun r => r.c.b.id)).length = lt := by unfold lotsL; simp
      have h := hll.rd (by omega)
      rw [hn] at h
      rw [lotsP_ok H0.out]
      simpa [idsL, List.map_map, Function.comp_def] using h)
    clear hE hll
    go_wp2
    refine bodyPost_ret (v := .tuple #[.slice (some ⟨go, 0, none⟩) lt lt, .int .i64 (judgeE (mOf lt size l) p)]) (by rw [H0.out]; simp [results, Tryz.results37, go_sem]) rfl ?_
    exact ⟨⟨_, rfl, HR.out⟩, HE2.out⟩
  · have H0 := Lib.hid h0
    obtain ⟨er, HER⟩ : ∃ er, Hid (judgeE (mOf lots size l) p = er) := ⟨_, Lib.hid rfl⟩
    rw [HER.out] at h0 ⊢
    go_wp2
    refine bodyPost_ret (v := .tuple #[.slice none 0 0, .int .i64 er]) (by simp [results, Tryz.results37, go_sem]) rfl ?_
    exact ⟨⟨_, by rw [HER.out], by rw [lotsP_no H0.out]; exact RdLL.nil _⟩, E1.out.alloc _⟩
end Go.Proofs.YtkpengeaolcjhaaGreatDoor
/- The reference's gap. -/
namespace Go.Proofs.YtkpengeaolcjhaaGreatDoor
open Go.RowKit Go.Shelf Go.Lib
set_option maxRecDepth 100000
set_option linter.unusedSimpArgs false

def gapI (a b : Int) : Int := max a b - min a b
end Go.Proofs.YtkpengeaolcjhaaGreatDoor
/- Orders of lots: plain. -/
namespace Go.Proofs.YtkpengeaolcjhaaGreatDoor
open Go.RowKit Go.Shelf
set_option linter.unusedSimpArgs false

/-- The orders of n lots that begin so, and go on with so many lots more. -/
def runsF (n : Nat) : Nat → List Int → List (List Int)
  | 0, l => [l]
  | k + 1, l => (List.range n).flatMap fun (i : Nat) => if l.contains ((i : Int) + 1) then [] else runsF n k (l ++ [(i : Int) + 1])
def runsL (n : Nat) : List (List Int) := runsF n n []
/-- .. of which the next is one of the first lots. -/
def rnk (n k : Nat) (l : List Int) (j : Nat) : List (List Int) := (List.range j).flatMap fun (i : Nat) => if l.contains ((i : Int) + 1) then [] else runsF n k (l ++ [(i : Int) + 1])
theorem rnk_succ (n k : Nat) (l : List Int) (j : Nat) : rnk n k l (j + 1) = rnk n k l j ++ (if l.contains ((j : Int) + 1) then [] else runsF n k (l ++ [(j : Int) + 1])) := by
  unfold rnk
  rw [List.range_succ, List.flatMap_append]
  simp
theorem rnk_pre (n k : Nat) (l : List Int) {i j : Nat} (h : i ≤ j) : rnk n k l i <+: rnk n k l j := by
  induction j with
  | zero => obtain rfl : i = 0 := by omega
            exact List.prefix_refl _
  | succ j ih =>
    by_cases hk : i = j + 1
    · rw [hk]; exact List.prefix_refl _
    · exact (ih (by omega)).trans (by rw [rnk_succ]; exact List.prefix_append _ _)
theorem runsF_mem {n : Nat} : ∀ {k : Nat} {l x : List Int}, x ∈ runsF n k l → (∀ y ∈ l, 1 ≤ y ∧ y ≤ (n : Int)) → x.length = l.length + k ∧ ∀ y ∈ x, 1 ≤ y ∧ y ≤ (n : Int)
  | 0, l, x, h, hl => by
    simp [runsF] at h
    subst h
    exact ⟨rfl, hl⟩
  | k + 1, l, x, h, hl => by
    unfold runsF at h
    obtain ⟨i, hi, h⟩ := List.mem_flatMap.1 h
    rw [List.mem_range] at hi
    split at h
    · simp at h
    · obtain ⟨h1, h2⟩ := runsF_mem h (fun y hy => by
        rw [List.mem_append] at hy
        rcases hy with hy | hy
        · exact hl y hy
        · simp at hy; omega)
      exact ⟨by rw [h1, List.length_append]; simp; omega, h2⟩
theorem runsL_mem {n : Nat} {x : List Int} (h : x ∈ runsL n) : x.length = n ∧ ∀ y ∈ x, 1 ≤ y ∧ y ≤ (n : Int) := by
  have := runsF_mem h (fun y hy => by simp at hy)
  exact ⟨by rw [this.1]; simp, this.2⟩
/-- The greatest step between the first lots. -/
def stepTo (f : Int → Int) (l : List Int) (i : Nat) : Int := (List.range i).foldl (fun n j => max n (gapI (f (l[j + 1]?.getD 0)) (f (l[j]?.getD 0)))) 0
def stepL (f : Int → Int) (l : List Int) : Int := stepTo f l (l.length - 1)
theorem stepTo_succ (f : Int → Int) (l : List Int) (i : Nat) : stepTo f l (i + 1) = max (stepTo f l i) (gapI (f (l[i + 1]?.getD 0)) (f (l[i]?.getD 0))) := by
  unfold stepTo
  rw [List.range_succ, List.foldl_append]
  rfl
theorem stepTo_bd {f : Int → Int} {l : List Int} {b : Int} (hb : 0 ≤ b) (hf : ∀ x, 0 ≤ f x ∧ f x ≤ b) : ∀ i, 0 ≤ stepTo f l i ∧ stepTo f l i ≤ b
  | 0 => ⟨Int.le_refl _, hb⟩
  | i + 1 => by
    have ih := stepTo_bd (l := l) hb hf i
    have h1 := hf (l[i + 1]?.getD 0)
    have h2 := hf (l[i]?.getD 0)
    rw [stepTo_succ]
    unfold gapI
    omega
/-- The program's order of orders. -/
def ordS (f : Int → Int) (a b : List Int) : Int := cmpI (stepL f a) (stepL f b)
/-! The sums of lots. -/
/-- The sum of a lot's lengths, as the reference adds it up. -/
def sumAt (p vals : List Int) (lot : Int) : Int := (lotL p vals lot).sum
theorem sum_bd {b : Int} : ∀ {l : List Int}, (∀ x ∈ l, 0 ≤ x ∧ x ≤ b) → 0 ≤ l.sum ∧ l.sum ≤ b * l.length
  | [], _ => by simp
  | x :: l, h => by
    have ih := sum_bd (l := l) (fun y hy => h y (by simp [hy]))
    have hx := h x (by simp)
    rw [List.sum_cons, List.length_cons]
    have e : b * ((l.length + 1 : Nat) : Int) = b * (l.length : Int) + b := by
      rw [show ((l.length + 1 : Nat) : Int) = (l.length : Int) + 1 by omega, Int.mul_add, Int.mul_one]
    omega
theorem sumAt_bd {p vals : List Int} {lot : Int} (hp : p.length ≤ 7) (hv : ∀ x ∈ vals, 0 ≤ x ∧ x ≤ 999) : 0 ≤ sumAt p vals lot ∧ sumAt p vals lot ≤ 6993 := by
  have h := sum_bd (l := lotL p vals lot) (fun x hx => hv x (lotL_mem hx))
  have hl : (lotL p vals lot).length ≤ 7 := by
    unfold lotL
    rw [List.length_map]
    exact Nat.le_trans (List.length_filter_le _ _) (by rw [List.length_zip]; omega)
  unfold sumAt
  omega
end Go.Proofs.YtkpengeaolcjhaaGreatDoor
/- The reference's sums of lots. -/
namespace Go.Proofs.YtkpengeaolcjhaaGreatDoor
open Go.RowKit Go.Shelf Go.Lib
set_option maxRecDepth 100000
set_option linter.unusedSimpArgs false

theorem run_makeIM {n : Nat} (hn : n ≤ 1000) (w : World) : (Instr.makeSlice 36 (.int .i64 (n : Int)) (.int .i64 (n : Int))).run Tryz.prog w = .ok (.slice (some ⟨w.heap.size, 0, none⟩) n n) (w.alloc (.cells (Array.replicate n (Value.int .i64 0)) 3)) := by
  obtain ⟨i0, hi, hz0, hz1, hz2⟩ := info_parts info3x
  have h := run_make (P := Tryz.prog) w 36 3 i0 (.int .i64 0) Tryz.underlying36 hi hz0 .i64 .i64 (n : Int) (n : Int) (by omega) (Int.le_refl _) (by rw [hz2]; omega) (by omega)
  rw [h, hz1]
  have e : madeCells (Value.int .i64 0).cells ((n : Int).toNat * 1) = Array.replicate n (Value.int .i64 0) := by
    apply Array.ext
    · simp [madeCells]
    · intro i h1 h2
      simp [madeCells, Value.cells, Nat.mod_one]
  rw [e]
  rfl
end Go.Proofs.YtkpengeaolcjhaaGreatDoor
/- mill.Run's steps. -/
namespace Go.Proofs.YtkpengeaolcjhaaGreatDoor
open Go.RowKit Go.Shelf Go.Lib
set_option maxRecDepth 100000
set_option linter.unusedSimpArgs false

/-- The program's sums of lots. -/
abbrev sumsP (lt : Nat) (f : Int → Int) : List Int := (List.range lt).map fun (j : Nat) => f ((j : Int) + 1)
theorem sumsP_at {lt : Nat} {f : Int → Int} {x : Int} (h1 : 1 ≤ x) (h2 : x ≤ (lt : Int)) : (sumsP lt f)[(x - 1).toNat]? = some (f x) := by
  unfold sumsP
  rw [List.getElem?_map, List.getElem?_range (by omega)]
  simp
  congr 1
  omega
set_option maxHeartbeats 4000000 in
/-- The greatest step of an order: the closure sees the sums. -/
theorem steps_any {lt bs g cap : Nat} {f : Int → Int} (l : List Int) (v : Value) (w : World) (h3 : lt ≤ 3) (hf : ∀ x, 0 ≤ f x ∧ f x ≤ 9000) (hb : Blk w bs 36 #[.slice (some ⟨g, 0, none⟩) lt cap]) (hs : SlI w (.slice (some ⟨g, 0, none⟩) lt cap) (sumsP lt f)) (hl : SlI w v l) (hlen : l.length ≤ 10) (hr : ∀ x ∈ l, 1 ≤ x ∧ x ≤ (lt : Int)) :
    Calls Tryz.prog 79 #[v, .pointer (some ⟨bs, 0, none⟩)] w fun e w' => e = .returned (.int .i64 (stepL f l)) ∧ Ext w w' := by
  have HB := Lib.hid hb; have HS := Lib.hid hs; have HV := Lib.hid hl; have HR := Lib.hid hr; have HF := Lib.hid hf
  obtain ⟨A, n, c, rfl, hn, hlc, hcm⟩ := hl.form
  have HN := Lib.hid (show l.length = n from hn.out.symm)
  have hn10 : n ≤ 10 := by have := hn.out; omega
  clear hb hs hl hr hf hn hlen
  go_enter Tryz.func79, Tryz.ntmps79
  go_wp2
  go_loopg [4, 5] n (fun gg s4 s5 wr => ∃ i : Nat, s4 = .int .i64 (stepTo f l i) ∧ s5 = .int .i64 ((i : Int) + 1) ∧ (i = 0 ∨ i + 1 ≤ n) ∧ n - i ≤ gg ∧ Aside (Ext w wr))
  case atStart => exact ⟨0, rfl, by simp, .inl rfl, by omega, Ext.refl _⟩
  case round =>
    obtain ⟨i, rfl, rfl, hi, hgg, EQ⟩ := hrel
    by_cases hlt : i + 1 < n
    · have hltz : (i : Int) + 1 < (n : Int) := by omega
      have hin : (i : Int) < (n : Int) := by omega
      obtain ⟨bo, off, x, rfl, hx, -, hcell⟩ := HV.out.at_ hlt
      obtain ⟨b2, off2, y, e2, hy, -, hcell2⟩ := HV.out.at_ (show i < n by omega)
      injection e2 with e2
      injection e2 with e21 e22
      subst e21 e22
      have hxr := HR.out x (List.mem_of_getElem? hx)
      have hyr := HR.out y (List.mem_of_getElem? hy)
      obtain ⟨jx, rfl⟩ : ∃ jx : Nat, x = (jx : Int) + 1 := ⟨(x - 1).toNat, by omega⟩
      obtain ⟨jy, rfl⟩ : ∃ jy : Nat, y = (jy : Int) + 1 := ⟨(y - 1).toNat, by omega⟩
      have hjx : jx < lt := by omega
      have hjy : jy < lt := by omega
      have hjxz : (jx : Int) < (lt : Int) := by omega
      have hjyz : (jy : Int) < (lt : Int) := by omega
      obtain ⟨b3, off3, u, e3, hu, -, hcell3⟩ := HS.out.at_ hjx
      obtain ⟨b4, off4, t, e4, ht, -, hcell4⟩ := HS.out.at_ hjy
      injection e3 with e3
      injection e3 with e31 e32
      subst e31 e32
      injection e4 with e4
      injection e4 with e41 e42
      subst e41 e42
      obtain rfl : f ((jx : Int) + 1) = u := by
        have := sumsP_at (f := f) (lt := lt) hxr.1 hxr.2
        rw [show ((jx : Int) + 1 - 1).toNat = jx by omega, hu] at this
        injection this with this; exact this.symm
      obtain rfl : f ((jy : Int) + 1) = t := by
        have := sumsP_at (f := f) (lt := lt) hyr.1 hyr.2
        rw [show ((jy : Int) + 1 - 1).toNat = jy by omega, ht] at this
        injection this with this; exact this.symm
      have HSU := Lib.hid (show stepTo f l (i + 1) = max (stepTo f l i) (gapI (f ((jx : Int) + 1)) (f ((jy : Int) + 1))) by rw [stepTo_succ, hx, hy]; rfl)
      have hfx := HF.out ((jx : Int) + 1)
      have hfy := HF.out ((jy : Int) + 1)
      have hst := stepTo_bd (l := l) (b := 9000) (by omega) HF.out i
      generalize f ((jx : Int) + 1) = fx at *
      generalize f ((jy : Int) + 1) = fy at *
      have hmx : max (max (stepTo f l i) (fx - fy)) (fy - fx) = stepTo f l (i + 1) := by rw [HSU.out]; unfold gapI; omega
      have hw1 : IntKind.i64.wrap (i : Int) = (i : Int) := by rw [IntKind.wrap_i64]; omega
      have hw2 : IntKind.i64.wrap (jx : Int) = (jx : Int) := by rw [IntKind.wrap_i64]; omega
      have hw3 : IntKind.i64.wrap (jy : Int) = (jy : Int) := by rw [IntKind.wrap_i64]; omega
      have hw4 : IntKind.i64.wrap (fx - fy) = fx - fy := by rw [IntKind.wrap_i64]; omega
      have hw5 : IntKind.i64.wrap (fy - fx) = fy - fx := by rw [IntKind.wrap_i64]; omega
      have hw6 : IntKind.i64.wrap ((i : Int) + 1 + 1) = ((i + 1 : Nat) : Int) + 1 := by rw [IntKind.wrap_i64]; omega
      have m0 := fun V (h : Ext wr V) => (HB.out.ext (EQ.out.trans h)).c1
      have m1 := fun V (h : Ext wr V) => SlI.cell hcell (EQ.out.trans h)
      have m2 := fun V (h : Ext wr V) => SlI.cell hcell2 (EQ.out.trans h)
      have m3 := fun V (h : Ext wr V) => (show V.cell? ⟨g, jx, none⟩ = some (.int .i64 fx) by have := SlI.cell hcell3 (EQ.out.trans h); rwa [Nat.zero_add] at this)
      have m4 := fun V (h : Ext wr V) => (show V.cell? ⟨g, jy, none⟩ = some (.int .i64 fy) by have := SlI.cell hcell4 (EQ.out.trans h); rwa [Nat.zero_add] at this)
      clear hx hy hu ht hcell hcell2 hcell3 hcell4 hxr hyr hfx hfy hst
      go_wp2
      refine wp_region_tame_cut (fun V => Ext wr V) (fun V V' => Ext V V') (by kernel_rfl) 51 rfl _ rfl (by decide +kernel) (by decide +kernel) (by decide +kernel) rfl (Ext.refl _).drew ?_
      simp only [List.dropLast]
      repeat (apply tame_q rfl; (intro ρ W hC hr hD; (obtain ⟨hrc, hrg, hrf, hrs⟩ := hr); (simp [go_sem] at hD); go_simp; first | exact ⟨⟨hC, Ext.refl _⟩, rfl⟩ | exact ⟨⟨hC, RS.refl _⟩, rfl⟩ | exact rfl); simp only [List.nil_append, List.cons_append])
      refine tame_end 51 rfl rfl (fun ρ W hC hr hF => ?_)
      obtain ⟨hrc, hrg, hrf, hrs⟩ := hr
      simp [go_sem] at hF
      apply frame_to
      · go_simp
        exact rfl
      clear hF hrs hrc hrg hrf
      have EW := Lib.hid (EQ.out.trans hC)
      clear m0 m1 m2 m3 m4 hC
      go_wp2
      all_goals
        go_roundg (n - (i + 1))
        case measure => omega
        case rel =>
          refine ⟨i + 1, ?_, by first | rfl | simp, .inr (by omega), by omega, EW.out⟩
          rw [← hmx]
          congr 1
          first | omega | (split at * <;> omega)
    · have HE := Lib.hid (show stepTo f l i = stepL f l by
        unfold stepL
        rw [HN.out]
        congr 1
        omega)
      rw [HE.out]
      go_wp2
      go_ret
      exact ⟨rfl, EQ.out⟩
end Go.Proofs.YtkpengeaolcjhaaGreatDoor
/- mill.Run's order of orders. -/
namespace Go.Proofs.YtkpengeaolcjhaaGreatDoor
open Go.RowKit Go.Shelf Go.Lib
set_option maxRecDepth 100000
set_option linter.unusedSimpArgs false

set_option maxHeartbeats 1000000 in
theorem f82_any {lt bs bt g cap : Nat} {f : Int → Int} (x y : List Int) (v v' : Value) (w : World) (h3 : lt ≤ 3) (hf : ∀ x, 0 ≤ f x ∧ f x ≤ 9000) (hb : Blk w bs 36 #[.slice (some ⟨g, 0, none⟩) lt cap]) (hs : SlI w (.slice (some ⟨g, 0, none⟩) lt cap) (sumsP lt f))
    (hx : SlI w v x) (hy : SlI w v' y) (lx : x.length ≤ 10) (ly : y.length ≤ 10) (rx : ∀ z ∈ x, 1 ≤ z ∧ z ≤ (lt : Int)) (ry : ∀ z ∈ y, 1 ≤ z ∧ z ≤ (lt : Int)) (htb : w.cell? ⟨bt, 0, none⟩ = some (.func (.func 79) #[] #[.pointer (some ⟨bs, 0, none⟩)])) :
    Calls Tryz.prog 82 #[v, v', .pointer (some ⟨bt, 0, none⟩)] w fun e w' => e = .returned (.int .i64 (ordS f x y)) ∧ Ext w w' := by
  have HB := Lib.hid hb; have HS := Lib.hid hs; have HF := Lib.hid hf; have HX := Lib.hid hx; have HY := Lib.hid hy; have LX := Lib.hid lx; have LY := Lib.hid ly; have RX := Lib.hid rx; have RY := Lib.hid ry
  obtain ⟨Ax, nx, cx, rfl, -, -, -⟩ := hx.form
  obtain ⟨Ay, ny, cy, rfl, -, -, -⟩ := hy.form
  have q0 := fun V (h : Ext w V) => (h.cells.1 bt 0 (is_cells htb).1).trans htb
  have HO := Lib.hid (show ordS f x y = cmpI (stepL f x) (stepL f y) from rfl)
  clear hs hx hy hb hf htb lx ly rx ry
  go_enter Tryz.func82, Tryz.ntmps82
  go_wp2_with fail
  refine wp_region_tame (fun W => Ext w W) (fun W W' => Ext W W') (by kernel_rfl) 13 rfl (by decide +kernel) (Ext.refl _).drew ?_
  repeat (apply tame_q rfl; (intro ρ W hC hr hD; (obtain ⟨hrc, hrg, hrf, hrs⟩ := hr); (simp [go_sem] at hD); go_simp; first | exact ⟨⟨hC, Ext.refl _⟩, rfl⟩ | exact ⟨⟨hC, RS.refl _⟩, rfl⟩ | exact rfl); simp only [List.nil_append, List.cons_append])
  apply tame_q rfl
  · intro ρ W hC hr hD
    obtain ⟨hrc, hrg, hrf, hrs⟩ := hr
    simp [go_sem] at hD
    have HC := Lib.hid hC
    go_simp
    refine (steps_any x _ W h3 HF.out (HB.out.ext HC.out) (HS.out.ext HC.out) (HX.out.ext HC.out) LX.out RX.out).mono ?_
    rintro e w' ⟨rfl, hE⟩
    exact ⟨_, rfl, ⟨HC.out.trans hE, hE⟩, rfl⟩
  simp only [List.nil_append, List.cons_append]
  repeat (apply tame_q rfl; (intro ρ W hC hr hD; (obtain ⟨hrc, hrg, hrf, hrs⟩ := hr); (simp [go_sem] at hD); go_simp; first | exact ⟨⟨hC, Ext.refl _⟩, rfl⟩ | exact ⟨⟨hC, RS.refl _⟩, rfl⟩ | exact rfl); simp only [List.nil_append, List.cons_append])
  apply tame_q rfl
  · intro ρ W hC hr hD
    obtain ⟨hrc, hrg, hrf, hrs⟩ := hr
    simp [go_sem] at hD
    have HC := Lib.hid hC
    go_simp
    refine (steps_any y _ W h3 HF.out (HB.out.ext HC.out) (HS.out.ext HC.out) (HY.out.ext HC.out) LY.out RY.out).mono ?_
    rintro e w' ⟨rfl, hE⟩
    exact ⟨_, rfl, ⟨HC.out.trans hE, hE⟩, rfl⟩
  simp only [List.nil_append, List.cons_append]
  apply tame_q rfl
  · intro ρ W hC hr hD
    obtain ⟨hrc, hrg, hrf, hrs⟩ := hr
    simp [go_sem] at hD
    go_simp
    refine (compare_any _ _ W).mono ?_
    rintro e w' ⟨rfl, hE⟩
    exact ⟨_, rfl, ⟨hC.trans hE, hE⟩, rfl⟩
  simp only [List.nil_append, List.cons_append]
  repeat (apply tame_q rfl; (intro ρ W hC hr hD; (obtain ⟨hrc, hrg, hrf, hrs⟩ := hr); (simp [go_sem] at hD); go_simp; first | exact ⟨⟨hC, Ext.refl _⟩, rfl⟩ | exact ⟨⟨hC, RS.refl _⟩, rfl⟩ | exact rfl); simp only [List.nil_append, List.cons_append])
  refine tame_end 13 rfl rfl (fun ρ W hC hr hF => ?_)
  obtain ⟨hrc, hrg, hrf, hrs⟩ := hr
  simp [go_sem] at hF
  apply frame_to
  · go_simp
    exact rfl
  clear hF hrs hrc hrg hrf
  have HC := Lib.hid hC
  clear hC q0
  go_wp2
  go_ret
  exact ⟨by rw [HO.out]; rfl, HC.out⟩
end Go.Proofs.YtkpengeaolcjhaaGreatDoor
/- mill.runs: the closure that goes on with a lot. -/
namespace Go.Proofs.YtkpengeaolcjhaaGreatDoor
open Go.RowKit Go.Shelf Go.Lib
set_option maxRecDepth 100000
set_option linter.unusedSimpArgs false

/-- What the closure sees. -/
structure RMl (fid : FuncId) (lid bn by' bp n : Nat) (W : World) : Prop where
  n : W.cell? ⟨bn, 0, none⟩ = some (.int .i64 (n : Int))
  y : W.cell? ⟨by', 0, none⟩ = some (.func (.yield lid) #[] #[])
  f : W.cell? ⟨bp, 0, none⟩ = some (.func (.func fid) #[] #[.pointer (some ⟨bn, 0, none⟩), .pointer (some ⟨by', 0, none⟩), .pointer (some ⟨bp, 0, none⟩)])
section
variable {fid : FuncId} {lid bn by' bp n : Nat} {V W : World}
theorem RMl.keep {n₀ : Nat} {X : Nat → Prop} (h : RMl fid lid bn by' bp n V) (k : Keep n₀ X V W) (x1 : ¬ X bn) (x2 : ¬ X by') (x3 : ¬ X bp) : RMl fid lid bn by' bp n W := ⟨k.cell x1 h.n, k.cell x2 h.y, k.cell x3 h.f⟩
theorem RMl.ext (h : RMl fid lid bn by' bp n V) (e : Ext V W) : RMl fid lid bn by' bp n W := by
  have k : ∀ {b i : Nat} {v : Value}, V.cell? ⟨b, i, none⟩ = some v → W.cell? ⟨b, i, none⟩ = some v := fun hc => (e.cells.1 _ _ (is_cells hc).1).trans hc
  exact ⟨k h.n, k h.y, k h.f⟩
end
theorem contains_eq (g : List Int) (x : Int) : (g.any fun y => decide (x = y)) = g.contains x := by
  rw [Bool.eq_iff_iff]
  simp

/-- What a call of next does. -/
def NextC (fid : FuncId) (lid bn by' bp n n₀ x₀ : Nat) (X : Nat → Prop) (J Jx : List (List Int) → World → Prop) (tot : List (List Int)) (k : Nat) : Prop :=
  ∀ (g : List Int) (B : Option Addr) (np cp : Nat) (pre : List (List Int)) (W₀ : World), g.length + k = n → SlI W₀ (.slice B np cp) g → (∀ b o, B = some ⟨b, o, none⟩ → 0 < g.length → x₀ ≤ b ∧ ¬ X b) →
    RMl fid lid bn by' bp n W₀ → J pre W₀ → n₀ ≤ W₀.heap.size → x₀ ≤ W₀.heap.size → pre ++ runsF n k g <+: tot →
    Calls Tryz.prog 113 #[.slice B np cp, .pointer (some ⟨bn, 0, none⟩), .pointer (some ⟨by', 0, none⟩), .pointer (some ⟨bp, 0, none⟩)] W₀ fun e W' =>
      (e = .returned (.bool true) ∧ J (pre ++ runsF n k g) W' ∧ Keep n₀ X W₀ W') ∨ (e = .returned (.bool false) ∧ ∃ q, q <+: runsF n k g ∧ Jx (pre ++ q) W')
set_option maxHeartbeats 2000000 in
theorem next_leaf {fid : FuncId} {lid bn by' bp n n₀ x₀ : Nat} {X : Nat → Prop} {J Jx : List (List Int) → World → Prop} {tot : List (List Int)}
    (hY : ∀ m pre x v W1, J pre W1 → SlI W1 v x → pre ++ [x] <+: tot → YieldAt Fence.wide m Tryz.prog lid #[v] W1 fun e W' => (e = .returned (.bool true) ∧ J (pre ++ [x]) W' ∧ Keep n₀ X W1 W') ∨ (e = .returned (.bool false) ∧ Jx (pre ++ [x]) W')) :
    NextC fid lid bn by' bp n n₀ x₀ X J Jx tot 0 := by
  intro g B np cp pre W₀ hlen hs hB hM hJ hn0 hx0 hp
  obtain rfl : np = n := by obtain ⟨A', c', e, -⟩ := hs; injection e with _ e; omega
  obtain ⟨t0, y, fc⟩ := hM
  have hb1 := (is_cells t0).1
  have hb2 := (is_cells y).1
  have e1 : runsF np 0 g = [g] := rfl
  rw [e1] at hp ⊢
  obtain ⟨fn, tmps, assign, body, hy, hR⟩ := hY 0 pre g (.slice B np cp) _ hJ hs hp
  clear hs hB hJ hp
  refine (callsIn_wide (n := 1)).1 (callsIn_of_wp Tryz.func113 rfl trivial ?_ rfl)
  simp only [Tryz.ntmps113, List.size_toArray, List.length_cons, List.length_nil, Nat.reduceAdd, Nat.reduceSub, Array.replicate_succ, Array.replicate_zero, List.push_toArray, List.append_toArray, List.nil_append, List.cons_append]
  refine (wpIn_wide (n := 1)).2 ?_
  go_upto_region 2 with (fail)
  refine (wpIn_wide (n := 1)).1 ?_
  gi_wp2_with ((try refine ⟨wide_depth _, ?_⟩); refine hR.mono ?_; clear hR; rintro e W2 (⟨rfl, hJ2, hk⟩ | ⟨rfl, hx⟩))
  · go_wp2
    try rw [Exit.noGoto_ret]
    go_ret
    exact .inl ⟨rfl, hJ2, hk⟩
  · go_wp2
    try rw [Exit.noGoto_ret]
    go_ret
    exact .inr ⟨rfl, [g], List.prefix_refl _, hx⟩
set_option maxHeartbeats 8000000 in
theorem next_cons {fid : FuncId} {lid bn by' bp n n₀ x₀ k : Nat} {X : Nat → Prop} {J Jx : List (List Int) → World → Prop} {tot : List (List Int)}
    (hfid : fid = 113) (hn3 : n ≤ 3) (hX : ∀ b, X b → b < x₀) (x1 : ¬ X bn) (x2 : ¬ X by') (x3 : ¬ X bp) (hJ0 : ∀ pre A B, J pre A → Ext A B → J pre B) (ih : NextC fid lid bn by' bp n n₀ x₀ X J Jx tot k) : NextC fid lid bn by' bp n n₀ x₀ X J Jx tot (k + 1) := by
  intro g B np cp pre W₀ hlen hs hB hM hJ hn0 hx0 hp
  have hnp : np = g.length := by obtain ⟨A', c', e, -⟩ := hs; injection e
  have hnpc : np ≤ cp := by obtain ⟨A', c', e, h, -⟩ := hs; injection e with _ _ e3; omega
  have hnpn : np < n := by omega
  have hnpz : ((np : Int) == (n : Int)) = false := by simp; omega
  have HGL := Lib.hid hnp
  have HLE := Lib.hid (show np + 1 + k = n by omega)
  have HTS := Lib.hid (rnk_succ n k g)
  have HTP := Lib.hid (fun i (hi : i ≤ n) => rnk_pre n k g hi)
  generalize hT : runsF n (k + 1) g = T at hp ⊢
  have HT := Lib.hid (show T = rnk n k g n by rw [← hT]; rfl)
  have HS := Lib.hid hs; have HM := Lib.hid hM; have HJ := Lib.hid hJ; have HP := Lib.hid hp; have IH := Lib.hid ih; have HB := Lib.hid hB
  have HJ0 := Lib.hid hJ0; have HX := Lib.hid hX; have HX0 := Lib.hid hx0; have HN0 := Lib.hid hn0
  have eg : ∀ args w, (callFunc fid args).run Tryz.prog w = .ok (.enter fid args) w := by rw [hfid]; exact enters_of Tryz.func113 (by kernel_rfl) rfl
  have HFI := Lib.hid hfid
  obtain ⟨t0, yy, fc⟩ := id hM
  have hb1 := (is_cells t0).1
  clear hs hM hJ hp ih hB hJ0 hX hx0 hn0 hlen hnp hT hfid
  go_enter Tryz.func113, Tryz.ntmps113
  go_wp2
  clear t0 yy fc hb1
  go_loopg [6] n (fun gg s wr => ∃ j : Nat, s = .int .i64 ((j : Int) + 1) ∧ j ≤ n ∧ n - j ≤ gg ∧ Aside (J (pre ++ rnk n k g j) wr) ∧ Aside (Keep n₀ X W₀ wr))
  case atStart => exact ⟨0, by simp, by omega, by omega, by show J _ _; rw [show rnk n k g 0 = [] from rfl, List.append_nil]; exact HJ.out, Keep.refl _⟩
  case round =>
    obtain ⟨j, rfl, hj, hgg, HJQ, HKQ⟩ := hrel
    have HMQ := Lib.hid (HM.out.keep HKQ.out x1 x2 x3)
    have HSQ := Lib.hid ((HS.out).keepG HKQ.out (fun h0 b o e => (HB.out b o e h0).2))
    have hz5 := HKQ.out.b.size
    have HZR := Lib.hid (show n₀ ≤ wr.heap.size ∧ x₀ ≤ wr.heap.size by have := HN0.out; have := HX0.out; omega)
    have hcn := HMQ.out.n
    have hcl := (is_cells hcn).1
    by_cases hjn : j < n
    · have hjz : (j : Int) + 1 ≤ (n : Int) := by omega
      have hw1 : IntKind.i64.wrap ((j : Int) + 1 + 1) = ((j + 1 : Nat) : Int) + 1 := by rw [IntKind.wrap_i64]; omega
      have m0 := fun V (h : Ext wr V) => (HMQ.out.ext h).f
      obtain ⟨cb, hcb⟩ : ∃ cb, g.contains ((j : Int) + 1) = cb := ⟨_, rfl⟩
      have HCB := Lib.hid (show (g.any fun y => decide ((j : Int) + 1 = y)) = cb by rw [contains_eq, hcb])
      have HNX := Lib.hid (show rnk n k g (j + 1) = rnk n k g j ++ (if cb then [] else runsF n k (g ++ [(j : Int) + 1])) by rw [HTS.out j, hcb])
      clear hcb
      cases cb
      · go_wp2
        clear hcn hcl
        refine (wpIn_wide (n := 1)).1 ?_
        refine wpIn_region_tame (Open.wide 1) (fun V => Ext wr V) (fun V V' => Ext V V') (by kernel_rfl) 37 rfl 15 (by decide +kernel) (by decide +kernel) (by decide +kernel) (Ext.refl _).drew ?_
        simp only [List.take, List.map]
        repeat (apply tame_q rfl; (intro ρ W hC hr hD; (obtain ⟨hrc, hrg, hrf, hrs⟩ := hr); (simp [go_sem] at hD); go_simp; first | exact ⟨⟨hC, Ext.refl _⟩, rfl⟩ | exact ⟨⟨hC, RS.refl _⟩, rfl⟩ | exact rfl); simp only [List.nil_append, List.cons_append])
        apply tame_q rfl
        · intro ρ W hC hr hD
          obtain ⟨hrc, hrg, hrf, hrs⟩ := hr
          simp [go_sem] at hD
          go_simp
          refine (contains_any g _ ((j : Int) + 1) W (HSQ.out.ext hC)).mono ?_
          rintro e w' ⟨rfl, hE⟩
          exact ⟨_, rfl, ⟨hC.trans hE, hE⟩, rfl⟩
        simp only [List.nil_append, List.cons_append]
        rw [HCB.out]
        repeat (apply tame_q rfl; (intro ρ W hC hr hD; (obtain ⟨hrc, hrg, hrf, hrs⟩ := hr); (simp [go_sem] at hD); go_simp; first | exact ⟨⟨hC, Ext.refl _⟩, rfl⟩ | exact ⟨⟨hC, RS.refl _⟩, rfl⟩ | exact rfl); simp only [List.nil_append, List.cons_append])
        apply tame_v rfl (OneB ((j : Int) + 1)) (fun v V V' _ hE h => h.extM hE)
        · intro ρ V hC hr hD
          obtain ⟨hrc, hrg, hrf, hrs⟩ := hr
          simp [go_sem] at hD
          go_simp
          exact ⟨⟨hC.alloc _, Ext.al _ _⟩, ⟨_, rfl, Blk.new _ _ _⟩⟩
        simp only [List.nil_append, List.cons_append]
        apply tame_v rfl (fun v V => Own encI 3 1 V wr.heap.size v (g ++ [(j : Int) + 1])) (fun v V V' _ hE h => h.ext hE)
        · intro ρ V hC hr hD
          obtain ⟨hrc, hrg, hrf, hrs⟩ := hr
          simp [go_sem] at hD
          obtain ⟨d1, ⟨bb, d3, d4⟩, d5⟩ := hD
          rw [if_pos (by simp [runs, isB, d5])]
          obtain ⟨v', V', hrun, ho, hE⟩ := run_appFull (y := (j : Int) + 1) ((HSQ.out.ext hC).capM (Nat.le_refl _) (by unfold maxLen; omega)) d4 36 (by have := HGL.out; omega)
          show opGives _ _ _ _ _ _ _
          unfold opGives execOp
          simp only [resolve, invoke, builtin, Sem.run_bind, Sem.run_pure, Result.andThen_ok, List.map_toArray, List.map_cons, List.map_nil, d1, d3, hrun]
          exact ⟨⟨hC.trans hE, hE⟩, ho.mono hC.size⟩
        simp only [List.nil_append, List.cons_append]
        repeat (apply tame_q rfl; (intro ρ W hC hr hD; (obtain ⟨hrc, hrg, hrf, hrs⟩ := hr); (simp [go_sem] at hD); go_simp; first | exact ⟨⟨hC, Ext.refl _⟩, rfl⟩ | exact ⟨⟨hC, RS.refl _⟩, rfl⟩ | exact rfl); simp only [List.nil_append, List.cons_append])
        refine tame_end 37 rfl rfl (fun ρ V hC hr hF => ?_)
        obtain ⟨hrc, hrg, hrf, hrs⟩ := hr
        have h33 : Own encI 3 1 V wr.heap.size (ρ (.tmp 33)) (g ++ [(j : Int) + 1]) := hF.2.2.2.2.2.2.2.2.2.2.2.2.2.2.1
        simp [go_sem] at hF
        have hsl : SlI V (ρ (.tmp 33)) (g ++ [(j : Int) + 1]) := h33.sl (fun _ => rfl)
        have hnew : ∀ A7 n7 c7, ρ (.tmp 33) = .slice A7 n7 c7 → ∀ b o, A7 = some ⟨b, o, none⟩ → wr.heap.size ≤ b := by
          intro A7 n7 c7 e b o e2
          rcases own_formG h33 with ⟨h1, h2⟩ | ⟨g', cap, cur, h1, h3, -⟩
          · simp at h2
          · rw [e] at h1; injection h1 with h1; rw [e2] at h1; injection h1 with h1; injection h1 with h1; omega
        obtain ⟨A7, n7, c7, e67, -, -, -⟩ := hsl.form
        rw [e67] at hsl
        have HSL := Lib.hid hsl
        have HNW := Lib.hid (hnew A7 n7 c7 e67)
        have HCV := Lib.hid hC
        apply frame_to
        · go_simp
          exact rfl
        clear hF e67 h33 hsl hnew hrs hrc hrg hrf m0
        have hsv := hC.size
        clear hC
        have hpp : (pre ++ rnk n k g j) ++ runsF n k (g ++ [(j : Int) + 1]) = pre ++ rnk n k g (j + 1) := by
          rw [HNX.out, List.append_assoc]; rfl
        have HPP := Lib.hid hpp
        have H := IH.out (g ++ [(j : Int) + 1]) A7 n7 c7 (pre ++ rnk n k g j) V (by rw [List.length_append]; simp; have := HGL.out; have := HLE.out; omega) HSL.out (fun b o e _ => by
            have h1 := HNW.out b o e
            have h2 := HZR.out.2
            exact ⟨by omega, fun hx => by have := HX.out b hx; omega⟩) (HMQ.out.ext HCV.out) (HJ0.out _ _ _ HJQ.out HCV.out) (by have := HZR.out.1; omega) (by have := HZR.out.2; omega) (by
            rw [hpp]
            refine List.IsPrefix.trans ?_ HP.out
            rw [HT.out]
            exact (List.prefix_append_right_inj _).2 (HTP.out (j + 1) (by omega)))
        rw [← HFI.out] at H
        have HH := Lib.hid H
        have HKW := Lib.hid (HKQ.out.trans (Keep.ext (X := X) HCV.out HZR.out.1))
        clear hpp H hsv
        simp only [List.drop]
        gi_wp2_with fail
        refine ⟨trivial, ?_⟩
        refine (callsIn_wide.2 HH.out).mono ?_
        rintro e w' (⟨rfl, k1, k2⟩ | ⟨rfl, q', k1, k2⟩)
        · have K1 := Lib.hid k1; have K2 := Lib.hid k2
          clear k1 k2
          gi_wp2
          go_wp2
          go_roundg (n - (j + 1))
          case measure => omega
          case rel => exact ⟨j + 1, by first | rfl | simp, by omega, by omega, by show J _ _; rw [← HPP.out]; exact K1.out, HKW.out.trans K2.out⟩
        · have K1 := Lib.hid k1; have K2 := Lib.hid k2
          clear k1 k2
          gi_wp2
          go_wp2
          try rw [Exit.noGoto_ret]
          go_ret
          refine .inr ⟨rfl, rnk n k g j ++ q', ?_, by rw [← List.append_assoc]; exact K2.out⟩
          rw [HT.out]
          refine List.IsPrefix.trans ?_ (HTP.out (j + 1) (by omega))
          rw [HNX.out]
          exact (List.prefix_append_right_inj _).2 K1.out
      · go_wp2
        clear hcn hcl
        refine (wpIn_wide (n := 1)).1 ?_
        refine wpIn_region_tame (Open.wide 1) (fun V => Ext wr V) (fun V V' => Ext V V') (by kernel_rfl) 37 rfl 15 (by decide +kernel) (by decide +kernel) (by decide +kernel) (Ext.refl _).drew ?_
        simp only [List.take, List.map]
        repeat (apply tame_q rfl; (intro ρ W hC hr hD; (obtain ⟨hrc, hrg, hrf, hrs⟩ := hr); (simp [go_sem] at hD); go_simp; first | exact ⟨⟨hC, Ext.refl _⟩, rfl⟩ | exact ⟨⟨hC, RS.refl _⟩, rfl⟩ | exact rfl); simp only [List.nil_append, List.cons_append])
        apply tame_q rfl
        · intro ρ W hC hr hD
          obtain ⟨hrc, hrg, hrf, hrs⟩ := hr
          simp [go_sem] at hD
          go_simp
          refine (contains_any g _ ((j : Int) + 1) W (HSQ.out.ext hC)).mono ?_
          rintro e w' ⟨rfl, hE⟩
          exact ⟨_, rfl, ⟨hC.trans hE, hE⟩, rfl⟩
        simp only [List.nil_append, List.cons_append]
        rw [HCB.out]
        repeat (apply tame_q rfl; (intro ρ W hC hr hD; (obtain ⟨hrc, hrg, hrf, hrs⟩ := hr); (simp [go_sem] at hD); go_simp; first | exact ⟨⟨hC, Ext.refl _⟩, rfl⟩ | exact ⟨⟨hC, RS.refl _⟩, rfl⟩ | exact rfl); simp only [List.nil_append, List.cons_append])
        refine tame_end 37 rfl rfl (fun ρ W hC hr hF => ?_)
        obtain ⟨hrc, hrg, hrf, hrs⟩ := hr
        simp [go_sem] at hF
        apply frame_to
        · go_simp
          exact rfl
        clear hF hrs hrc hrg hrf
        have HCV := Lib.hid hC
        clear hC m0
        have HKW := Lib.hid (HKQ.out.trans (Keep.ext (X := X) HCV.out HZR.out.1))
        simp only [List.drop]
        gi_wp2
        refine ⟨fun _ h => (by cases h), ?_⟩
        gi_wp2
        go_wp2
        go_roundg (n - (j + 1))
        case measure => omega
        case rel => exact ⟨j + 1, by first | rfl | simp, by omega, by omega, by show J _ _; rw [HNX.out]; simpa using HJ0.out _ _ _ HJQ.out HCV.out, HKW.out⟩
    · have hje : j = n := by omega
      subst hje
      go_wp2
      try rw [Exit.noGoto_ret]
      go_ret
      exact .inl ⟨rfl, by rw [HT.out]; exact HJQ.out, HKQ.out⟩
end Go.Proofs.YtkpengeaolcjhaaGreatDoor
/- mill.runs: what the sequence yields. -/
namespace Go.Proofs.YtkpengeaolcjhaaGreatDoor
open Go.RowKit Go.Shelf Go.Lib
set_option maxRecDepth 100000
set_option linter.unusedSimpArgs false

theorem next_any {fid : FuncId} {lid bn by' bp n n₀ x₀ : Nat} {X : Nat → Prop} {J Jx : List (List Int) → World → Prop} {tot : List (List Int)}
    (hfid : fid = 113) (hn3 : n ≤ 3) (hX : ∀ b, X b → b < x₀) (x1 : ¬ X bn) (x2 : ¬ X by') (x3 : ¬ X bp) (hJ0 : ∀ pre A B, J pre A → Ext A B → J pre B)
    (hY : ∀ m pre x v W1, J pre W1 → SlI W1 v x → pre ++ [x] <+: tot → YieldAt Fence.wide m Tryz.prog lid #[v] W1 fun e W' => (e = .returned (.bool true) ∧ J (pre ++ [x]) W' ∧ Keep n₀ X W1 W') ∨ (e = .returned (.bool false) ∧ Jx (pre ++ [x]) W')) :
    ∀ k, NextC fid lid bn by' bp n n₀ x₀ X J Jx tot k
  | 0 => next_leaf hY
  | k + 1 => next_cons hfid hn3 hX x1 x2 x3 hJ0 (next_any hfid hn3 hX x1 x2 x3 hJ0 hY k)
set_option maxHeartbeats 2000000 in
theorem runs_seqs {bn n n₀ : Nat} {X : Nat → Prop} {w : World} (hn3 : n ≤ 3) (hX : ∀ b, X b → b < w.heap.size) (x1 : ¬ X bn) (hnw : n₀ ≤ w.heap.size) (hbn : Blk w bn 3 #[.int .i64 (n : Int)]) :
    Seqs Tryz.prog 112 #[.pointer (some ⟨bn, 0, none⟩)] n₀ X (fun x v W => SlI W v x) (runsL n) w := by
  intro lid J Jx W hE hJ hJx hY h0
  have hsz := hE.size
  have hE4 : Ext W ((W.alloc (.cells #[.func (.yield lid) #[] #[]] 180)).alloc (.cells #[.func (.func 113) #[] #[.pointer (some ⟨bn, 0, none⟩), .pointer (some ⟨W.heap.size, 0, none⟩), .pointer (some ⟨W.heap.size + 1, 0, none⟩)]] 180)) := (Ext.al _ _).alloc _
  have HPA := Lib.hid (next_any (fid := 113) (lid := lid) (bn := bn) (by' := W.heap.size) (bp := W.heap.size + 1) (n := n) (n₀ := n₀) (x₀ := w.heap.size) (X := X) (J := J) (Jx := Jx) (tot := runsL n)
    rfl hn3 hX x1 (fun h => by have := hX _ h; omega) (fun h => by have := hX _ h; omega) hJ hY n)
  obtain ⟨w4, hw4⟩ : ∃ w4, w4 = ((W.alloc (.cells #[.func (.yield lid) #[] #[]] 180)).alloc (.cells #[.func (.func 113) #[] #[.pointer (some ⟨bn, 0, none⟩), .pointer (some ⟨W.heap.size, 0, none⟩), .pointer (some ⟨W.heap.size + 1, 0, none⟩)]] 180)) := ⟨_, rfl⟩
  rw [← hw4] at hE4
  have hbn4 := (hbn.ext hE).ext hE4
  have hy4 : w4.cell? ⟨W.heap.size, 0, none⟩ = some (.func (.yield lid) #[] #[]) := by rw [hw4]; simp [go_sem]
  have hp4 : w4.cell? ⟨W.heap.size + 1, 0, none⟩ = some (.func (.func 113) #[] #[.pointer (some ⟨bn, 0, none⟩), .pointer (some ⟨W.heap.size, 0, none⟩), .pointer (some ⟨W.heap.size + 1, 0, none⟩)]) := by rw [hw4]; simp [go_sem]
  have HPM := Lib.hid (show RMl 113 lid bn W.heap.size (W.heap.size + 1) n w4 from ⟨hbn4.c1.1, hy4, hp4⟩)
  have HJ4 := Lib.hid (hJ _ _ _ h0 hE4)
  have hz4 := hE4.size
  have HIC := Lib.hid (HPA.out [] none 0 0 [] w4 (by simp) (Sl.nil _) (fun b o e => by cases e) HPM.out HJ4.out (by omega) (by omega) (by rw [List.nil_append]; exact List.prefix_refl _))
  have HRL := Lib.hid (show runsF n n [] = runsL n from rfl)
  clear HPA hbn hE hE4 hJ hJx hY h0 hbn4 hX hz4
  go_enter Tryz.func112, Tryz.ntmps112
  go_wp2_with fail
  rw [← hw4]
  refine HIC.out.mono ?_
  rintro e w' (⟨rfl, k1, k2⟩ | ⟨rfl, q', k1, k2⟩)
  · rw [HRL.out, List.nil_append] at k1
    have K1 := Lib.hid k1
    clear k1 k2
    go_wp2
    go_end0
    exact ⟨⟨_, rfl⟩, .inl K1.out⟩
  · rw [HRL.out] at k1
    rw [List.nil_append] at k2
    have K1 := Lib.hid k1; have K2 := Lib.hid k2
    clear k1 k2
    go_wp2
    go_end0
    exact ⟨⟨_, rfl⟩, .inr ⟨q', K1.out, K2.out⟩⟩
end Go.Proofs.YtkpengeaolcjhaaGreatDoor
/- mill's runs: the sequence is made. -/
namespace Go.Proofs.YtkpengeaolcjhaaGreatDoor
open Go.RowKit Go.Shelf Go.Lib
set_option maxRecDepth 100000
set_option linter.unusedSimpArgs false

theorem runs_any (n : Int) (w : World) : Calls Tryz.prog 81 #[.int .i64 n] w fun e w' => e = .returned (.func (.func 112) #[] #[.pointer (some ⟨w.heap.size, 0, none⟩)]) ∧ Blk w' w.heap.size 3 #[.int .i64 n] ∧ Ext w w' := by
  have hmf := hmf Tryz.prog
  go_enter Tryz.func81, Tryz.ntmps81
  go_wp2
  go_ret
  exact ⟨rfl, Blk.new _ _ _, Ext.al _ _⟩
end Go.Proofs.YtkpengeaolcjhaaGreatDoor
