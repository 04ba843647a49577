/- core.Wrong: the draws and weighings that must be false. -/
import Derived.Test.YtcoiahjehlplfaaDoorPkChangesCardP
namespace Go.Proofs.YtcoiahjehlplfaaDoor
open Go.RowKit Go.Shelf Go.Lib
set_option maxRecDepth 100000
set_option linter.unusedSimpArgs false

/-- A bale lies whole in block g. -/
structure BaleAt (b : Bale) (g : Nat) (dv wv : Value) (W : World) : Prop where
  k : Blk W g 27 #[.int .i64 b.id, .int .i64 b.layers, .int .i64 b.dry.lo, .int .i64 b.dry.hi, dv, wv]
  d : SlD W dv b.draws
  w : SlW W wv b.weighs
theorem BaleAt.ext {b : Bale} {g : Nat} {dv wv : Value} {W W' : World} (h : BaleAt b g dv wv W) (e : Ext W W') : BaleAt b g dv wv W' := ⟨h.k.ext e, h.d.ext e, h.w.ext e⟩
theorem withB_bds {b : Bale} (h : Bds b) (l k : List Int) : ∀ x ∈ (withB b l k).weighs, 0 ≤ x.damp.lo ∧ x.damp.lo ≤ 1000000 ∧ 0 ≤ x.damp.hi ∧ x.damp.hi ≤ 1000000 := fun x hx => by
  have := h.w x (List.mem_filter.1 hx).1
  omega

set_option maxHeartbeats 1000000 in
theorem f85_any (b : Bale) (l : List Int) (v dv wv : Value) (g : Nat) (w : World) (hv : valid b = true) (hB : BaleAt b g dv wv w) (hl : SlI w v l) :
    Calls Tryd.prog 85 #[v, .pointer (some ⟨g, 0, none⟩)] w fun e w' => e = .returned (.bool (grown (spans (withB b l [])))) ∧ Ext w w' := by
  have HB := Lib.hid hB
  have hb := valid_bds hv
  have HL := Lib.hid hl
  obtain ⟨A, n, cp, rfl, hn, hlc, hcm⟩ := hB.d.form
  obtain ⟨A2, n2, cp2, rfl, hn2, hlc2, hcm2⟩ := hB.w.form
  obtain ⟨A3, n3, cp3, rfl, hn3, hlc3, hcm3⟩ := hl.form
  have x0 := hB.k.cell 0
  have x1 := hB.k.cell 1
  have x2 := hB.k.cell 2
  have x3 := hB.k.cell 3
  have x4 := hB.k.cell 4
  have x5 := hB.k.cell 5
  simp at x0 x1 x2 x3 x4 x5
  have HBD := Lib.hid hb
  clear hB hl hb
  go_enter Tryd.func85, Tryd.ntmps85
  go_wp2_with fail
  refine (without_any b l [] _ _ _ _ w HB.out.d HB.out.w HL.out (Sl.nil _) (by have := HBD.out.nd; omega) (by have := HBD.out.nw; omega)).mono ?_
  rintro e w1 ⟨⟨v1, rfl, dv1, wv1, rfl, o1, o2⟩, hE1⟩
  obtain ⟨Ad, nd, cd, rfl, -, -, -⟩ := (show SlD w1 dv1 _ from o1.sl (fun _ => rfl)).form
  obtain ⟨Aw, nw, cw, rfl, -, -, -⟩ := (show SlW w1 wv1 _ from o2.sl (fun _ => rfl)).form
  have HD1 := Lib.hid (show SlD w1 (.slice Ad nd cd) (withB b l []).draws from o1.sl (fun _ => rfl))
  have HW1 := Lib.hid (show SlW w1 (.slice Aw nw cw) (withB b l []).weighs from o2.sl (fun _ => rfl))
  have HE1 := Lib.hid hE1
  clear o1 o2 hE1 x0 x1 x2 x3 x4 x5
  dsimp only [valB]
  go_wp2_with fail
  refine (opened_any (withB b l []) _ _ w1 HD1.out HW1.out HBD.out.l1 HBD.out.l5 HBD.out.lo HBD.out.lh HBD.out.hi (withB_bds HBD.out l [])).mono ?_
  rintro e w2 ⟨sv, lv, rfl, s1, s2, hE2⟩
  have hs1 : SlS w2 sv (spans (withB b l [])) := s1.sl (fun _ => rfl)
  have hs2 : SlI w2 lv (dries (withB b l [])) := s2.sl (fun _ => rfl)
  obtain ⟨As, ns, cs, rfl, -, -, -⟩ := hs1.form
  obtain ⟨Al, nl, cl, rfl, -, -, -⟩ := hs2.form
  have HS := Lib.hid hs1; have HL2 := Lib.hid hs2
  have HD2 := Lib.hid (HD1.out.ext hE2); have HW2 := Lib.hid (HW1.out.ext hE2); have HE2 := Lib.hid (HE1.out.trans hE2)
  clear s1 s2 hs1 hs2 hE2
  dsimp only [valP, withB]
  go_wp2_with fail
  refine (grown_any (withB b l []) _ _ _ _ (spans (withB b l [])) (dries (withB b l [])) _ (HD2.out.ext (Ext.al _ _)) (HW2.out.ext (Ext.al _ _)) (HS.out.ext (Ext.al _ _)) (HL2.out.ext (Ext.al _ _))).mono ?_
  rintro e w3 ⟨rfl, hE3⟩
  have HE3 := Lib.hid ((HE2.out.alloc _).trans hE3)
  clear hE3
  go_wp2
  go_ret
  exact ⟨rfl, HE3.out⟩

set_option maxHeartbeats 1000000 in
theorem f88_any (b : Bale) (l : List Int) (v dv wv : Value) (g : Nat) (w : World) (hv : valid b = true) (hB : BaleAt b g dv wv w) (hl : SlI w v l) :
    Calls Tryd.prog 88 #[v, .pointer (some ⟨g, 0, none⟩)] w fun e w' => e = .returned (.bool (decide (0 < (dries (withB b [] l)).length))) ∧ Ext w w' := by
  have HB := Lib.hid hB
  have hb := valid_bds hv
  have HL := Lib.hid hl
  obtain ⟨A, n, cp, rfl, hn, hlc, hcm⟩ := hB.d.form
  obtain ⟨A2, n2, cp2, rfl, hn2, hlc2, hcm2⟩ := hB.w.form
  obtain ⟨A3, n3, cp3, rfl, hn3, hlc3, hcm3⟩ := hl.form
  have x0 := hB.k.cell 0
  have x1 := hB.k.cell 1
  have x2 := hB.k.cell 2
  have x3 := hB.k.cell 3
  have x4 := hB.k.cell 4
  have x5 := hB.k.cell 5
  simp at x0 x1 x2 x3 x4 x5
  have HBD := Lib.hid hb
  clear hB hl hb
  go_enter Tryd.func88, Tryd.ntmps88
  go_wp2_with fail
  refine (without_any b [] l _ _ _ _ w HB.out.d HB.out.w (Sl.nil _) HL.out (by have := HBD.out.nd; omega) (by have := HBD.out.nw; omega)).mono ?_
  rintro e w1 ⟨⟨v1, rfl, dv1, wv1, rfl, o1, o2⟩, hE1⟩
  obtain ⟨Ad, nd, cd, rfl, -, -, -⟩ := (show SlD w1 dv1 _ from o1.sl (fun _ => rfl)).form
  obtain ⟨Aw, nw, cw, rfl, -, -, -⟩ := (show SlW w1 wv1 _ from o2.sl (fun _ => rfl)).form
  have HD1 := Lib.hid (show SlD w1 (.slice Ad nd cd) (withB b [] l).draws from o1.sl (fun _ => rfl))
  have HW1 := Lib.hid (show SlW w1 (.slice Aw nw cw) (withB b [] l).weighs from o2.sl (fun _ => rfl))
  have HE1 := Lib.hid hE1
  clear o1 o2 hE1 x0 x1 x2 x3 x4 x5
  dsimp only [valB]
  go_wp2_with fail
  refine (opened_any (withB b [] l) _ _ w1 HD1.out HW1.out HBD.out.l1 HBD.out.l5 HBD.out.lo HBD.out.lh HBD.out.hi (withB_bds HBD.out [] l)).mono ?_
  rintro e w2 ⟨sv, lv, rfl, s1, s2, hE2⟩
  have hs1 : SlS w2 sv (spans (withB b [] l)) := s1.sl (fun _ => rfl)
  have hs2 : SlI w2 lv (dries (withB b [] l)) := s2.sl (fun _ => rfl)
  obtain ⟨As, ns, cs, rfl, -, -, -⟩ := hs1.form
  obtain ⟨Al, nl, cl, rfl, hnl, -, -⟩ := hs2.form
  have HE2 := Lib.hid (HE1.out.trans hE2)
  clear s1 s2 hs1 hs2 hE2
  dsimp only [valP, withB]
  go_wp2
  go_ret
  exact ⟨by rw [← hnl.out]; rfl, HE2.out.alloc _⟩

/-- What must be false, draws and weighings. -/
def wrongD (b : Bale) : Option (List Int) := (listsL (b.draws.map (·.number)) 3).find? fun l => grown (spans (withB b l []))
def wrongW (b : Bale) : Option (List Int) := (listsL (b.weighs.map (·.number)) 3).find? fun l => decide (0 < (dries (withB b [] l)).length)
def wrongE (b : Bale) : Int := if valid b then (if (wrongD b).isSome && (wrongW b).isSome then 0 else 4) else 30
def wrongL (b : Bale) : List Int := if wrongE b = 0 then (wrongD b).getD [] else []
def wrongK (b : Bale) : List Int := if wrongE b = 0 then (wrongW b).getD [] else []

/-- A slice of numbers, as the enumerator reads it. -/
theorem sl_at {W : World} {A : Option Addr} {n c : Nat} {l : List Int} (h : SlI W (.slice A n c) l) : ∀ i x, l[i]? = some x → ∃ bb off, A = some ⟨bb, off, none⟩ ∧ W.cell? ⟨bb, off + i, none⟩ = some (.int .i64 x) := by
  intro i x hx
  have hi : i < n := by
    have h1 := (List.getElem?_eq_some_iff.1 hx).1
    obtain ⟨_, _, e, _⟩ := h
    injection e with _ e _
    omega
  obtain ⟨bb, off, y, e1, hy, hbb, hc⟩ := h.at_ hi
  rw [hx] at hy
  injection hy with hy
  subst hy
  exact ⟨bb, off, e1, SlI.cell hc (Ext.refl _)⟩

set_option maxHeartbeats 2000000 in
theorem wrong_any (b : Bale) (dv wv : Value) (w : World) (hT : Tab w) (hd : SlD w dv b.draws) (hw : SlW w wv b.weighs) :
    Calls Tryd.prog 39 #[valB b dv wv] w fun e w' => ∃ v1 v2, e = .returned (.tuple #[v1, v2, .int .i64 (wrongE b)]) ∧ SlI w' v1 (wrongL b) ∧ SlI w' v2 (wrongK b) ∧ Ext w w' := by
  have HT := Lib.hid hT
  have HD := Lib.hid hd
  have HW := Lib.hid hw
  obtain ⟨A, n, cp, rfl, hn, hlc, hcm⟩ := hd.form
  obtain ⟨A2, n2, cp2, rfl, hn2, hlc2, hcm2⟩ := hw.form
  clear hd hw hT
  go_enter Tryd.func39, Tryd.ntmps39
  go_wp2_with fail
  refine (check_any b _ _ _ (HT.out.ext (Ext.al _ _)) (HD.out.ext (Ext.al _ _)) (HW.out.ext (Ext.al _ _))).mono ?_
  rintro e w1 ⟨rfl, hE⟩
  have HE1 := Lib.hid ((Ext.al w _).trans hE)
  have HB1 := Lib.hid (show BaleAt b w.heap.size (.slice A n cp) (.slice A2 n2 cp2) w1 from ⟨(Blk.new _ _ _).ext hE, HD.out.ext ((Ext.al _ _).trans hE), HW.out.ext ((Ext.al _ _).trans hE)⟩)
  clear hE
  cases hv : valid b with
  | false =>
    have HV := Lib.hid (show wrongE b = 30 by unfold wrongE; rw [hv]; rfl)
    have HV1 := Lib.hid (show wrongL b = [] by unfold wrongL; rw [HV.out]; rfl)
    have HV2 := Lib.hid (show wrongK b = [] by unfold wrongK; rw [HV.out]; rfl)
    clear hv
    show _
    dsimp only [errB]
    go_wp2
    refine bodyPost_ret (v := .tuple #[.slice none 0 0, .slice none 0 0, .int .i64 30]) (by simp [results, Tryd.results39, go_sem]) rfl ?_
    exact ⟨_, _, by rw [HV.out], by rw [HV1.out]; exact Sl.nil _, by rw [HV2.out]; exact Sl.nil _, HE1.out⟩
  | true =>
    have HV := Lib.hid hv
    have HBD := Lib.hid (valid_bds hv)
    have HVE := Lib.hid (show wrongE b = if (wrongD b).isSome && (wrongW b).isSome then 0 else 4 by unfold wrongE; rw [hv]; rfl)
    clear hv
    have x0 := HB1.out.k.cell 0
    have x1 := HB1.out.k.cell 1
    have x2 := HB1.out.k.cell 2
    have x3 := HB1.out.k.cell 3
    have x4 := HB1.out.k.cell 4
    have x5 := HB1.out.k.cell 5
    have xl := HB1.out.k.lt
    simp at x0 x1 x2 x3 x4 x5
    dsimp only [errB]
    go_wp2_with fail
    refine (f84_any b _ _ w1 HB1.out.d HB1.out.w (by have := HBD.out.nd; omega)).mono ?_
    rintro e w2 ⟨v2, rfl, hs2, hE2⟩
    obtain ⟨A3, n3, c3, rfl, hn3, -, -⟩ := hs2.form
    have HS2 := Lib.hid hs2; have HE2 := Lib.hid hE2
    clear hs2 hE2
    go_wp2_with fail
    refine (lists_any A3 n3 c3 3 w2).mono ?_
    rintro e w3 ⟨rfl, hw3⟩
    have E3 : Ext w2 w3 := by rw [hw3]; exact (Ext.al _ _).alloc _
    have hb0 : Blk w3 w2.heap.size 56 #[.slice A3 n3 c3] := by rw [hw3]; exact (Blk.new _ _ _).alloc _
    have hb1 : Blk w3 (w2.heap.size + 1) 3 #[.int .i64 3] := by rw [hw3]; exact Blk.at_ (by simp)
    have hn3' : n3 = (b.draws.map (·.number)).length := hn3.out
    have HB3 := Lib.hid (HB1.out.ext (HE2.out.trans E3))
    have HFI := Lib.hid (first_any (gf := 113) (tf := 85) (lb := #[.pointer (some ⟨w2.heap.size, 0, none⟩), .pointer (some ⟨w2.heap.size + 1, 0, none⟩)]) (fi := #[]) (tlb := #[.pointer (some ⟨w.heap.size, 0, none⟩)]) (w := w3)
      (p := fun l => grown (spans (withB b l []))) (enters_of Tryd.func113 (by kernel_rfl) rfl) (enters_of Tryd.func85 (by kernel_rfl) rfl)
      (lists_seqs (ba := w2.heap.size) (bm := w2.heap.size + 1) (ca := c3) (n₀ := w3.heap.size) (X := fun _ => False) (A := A3) (all := b.draws.map (·.number)) (most := 3) (w := w3) (by rw [List.length_map]; have := HBD.out.nd; omega) (fun _ h => h.elim) id (fun _ _ _ => id) (Nat.le_refl _)
        (by rw [← hn3']; exact hb0.cell 0) (sl_at (HS2.out.ext E3)) (hb1.cell 0))
      (fun x hx v W hB hv => f85_any b x v _ _ _ W HV.out (HB3.out.ext hB) hv))
    have HE3 := Lib.hid (HE1.out.trans (HE2.out.trans E3))
    clear hw3 E3 hb0 hb1 hn3' HS2 x0 x1 x2 x3 x4 x5 xl
    go_wp2_with fail
    refine HFI.out.mono ?_
    rintro e w4 ⟨va, rfl, hva, hE4⟩
    have HVA := Lib.hid hva
    have HE4 := Lib.hid (HE3.out.trans hE4)
    have HB4 := Lib.hid (HB3.out.ext hE4)
    clear hva hE4 HFI
    rw [show (List.find? (fun l => grown (spans (withB b l []))) (listsL (List.map (fun x => x.number) b.draws) 3)) = wrongD b from rfl]
    have x0 := HB4.out.k.cell 0
    have x1 := HB4.out.k.cell 1
    have x2 := HB4.out.k.cell 2
    have x3 := HB4.out.k.cell 3
    have x4 := HB4.out.k.cell 4
    have x5 := HB4.out.k.cell 5
    have xl := HB4.out.k.lt
    simp at x0 x1 x2 x3 x4 x5
    go_wp2_with fail
    refine (f60_any b _ _ w4 HB4.out.d HB4.out.w (by have := HBD.out.nw; omega)).mono ?_
    rintro e w5 ⟨v5, rfl, hs5, hE5⟩
    obtain ⟨A5, n5, c5, rfl, hn5, -, -⟩ := hs5.form
    have HS5 := Lib.hid hs5; have HE5 := Lib.hid hE5
    clear hs5 hE5
    go_wp2_with fail
    refine (lists_any A5 n5 c5 3 w5).mono ?_
    rintro e w6 ⟨rfl, hw6⟩
    have E6 : Ext w5 w6 := by rw [hw6]; exact (Ext.al _ _).alloc _
    have hb0 : Blk w6 w5.heap.size 56 #[.slice A5 n5 c5] := by rw [hw6]; exact (Blk.new _ _ _).alloc _
    have hb1 : Blk w6 (w5.heap.size + 1) 3 #[.int .i64 3] := by rw [hw6]; exact Blk.at_ (by simp)
    have hn5' : n5 = (b.weighs.map (·.number)).length := hn5.out
    have HB6 := Lib.hid (HB4.out.ext (HE5.out.trans E6))
    have HFI := Lib.hid (first_any (gf := 113) (tf := 88) (lb := #[.pointer (some ⟨w5.heap.size, 0, none⟩), .pointer (some ⟨w5.heap.size + 1, 0, none⟩)]) (fi := #[]) (tlb := #[.pointer (some ⟨w.heap.size, 0, none⟩)]) (w := w6)
      (p := fun l => decide (0 < (dries (withB b [] l)).length)) (enters_of Tryd.func113 (by kernel_rfl) rfl) (enters_of Tryd.func88 (by kernel_rfl) rfl)
      (lists_seqs (ba := w5.heap.size) (bm := w5.heap.size + 1) (ca := c5) (n₀ := w6.heap.size) (X := fun _ => False) (A := A5) (all := b.weighs.map (·.number)) (most := 3) (w := w6) (by rw [List.length_map]; have := HBD.out.nw; omega) (fun _ h => h.elim) id (fun _ _ _ => id) (Nat.le_refl _)
        (by rw [← hn5']; exact hb0.cell 0) (sl_at (HS5.out.ext E6)) (hb1.cell 0))
      (fun x hx v W hB hv => f88_any b x v _ _ _ W HV.out (HB6.out.ext hB) hv))
    have HE6 := Lib.hid (HE4.out.trans (HE5.out.trans E6))
    have HVA6 := Lib.hid (HVA.out.ext (HE5.out.trans E6))
    clear hw6 E6 hb0 hb1 hn5' HS5 x0 x1 x2 x3 x4 x5 xl
    go_wp2_with fail
    refine HFI.out.mono ?_
    rintro e w7 ⟨vb, rfl, hvb, hE7⟩
    have HVB := Lib.hid hvb
    have HE7 := Lib.hid (HE6.out.trans hE7)
    have HVA7 := Lib.hid (HVA6.out.ext hE7)
    clear hvb hE7 HFI
    rw [show (List.find? (fun l => decide (0 < (dries (withB b [] l)).length)) (listsL (List.map (fun x => x.number) b.weighs) 3)) = wrongW b from rfl]
    have HVA8 := Lib.hid (show SlI w7 va ((wrongD b).getD []) from HVA7.out)
    have HVB8 := Lib.hid (show SlI w7 vb ((wrongW b).getD []) from HVB.out)
    have HVL := Lib.hid (show wrongL b = if wrongE b = 0 then (wrongD b).getD [] else [] from rfl)
    have HVK := Lib.hid (show wrongK b = if wrongE b = 0 then (wrongW b).getD [] else [] from rfl)
    clear HVA HVA6 HVA7 HVB
    generalize wrongD b = od at *
    generalize wrongW b = ow at *
    cases od with
    | none =>
      have HE := Lib.hid (show wrongE b = 4 by rw [HVE.out]; rfl)
      go_wp2
      refine bodyPost_ret (v := .tuple #[.slice none 0 0, .slice none 0 0, .int .i64 4]) (by simp [results, Tryd.results39, go_sem]) rfl ?_
      exact ⟨_, _, by rw [HE.out], by rw [HVL.out, HE.out]; exact Sl.nil _, by rw [HVK.out, HE.out]; exact Sl.nil _, HE7.out⟩
    | some ld =>
      cases ow with
      | none =>
        have HE := Lib.hid (show wrongE b = 4 by rw [HVE.out]; rfl)
        go_wp2
        refine bodyPost_ret (v := .tuple #[.slice none 0 0, .slice none 0 0, .int .i64 4]) (by simp [results, Tryd.results39, go_sem]) rfl ?_
        exact ⟨_, _, by rw [HE.out], by rw [HVL.out, HE.out]; exact Sl.nil _, by rw [HVK.out, HE.out]; exact Sl.nil _, HE7.out⟩
      | some lw =>
        have HE := Lib.hid (show wrongE b = 0 by rw [HVE.out]; rfl)
        go_wp2
        refine bodyPost_ret (v := .tuple #[va, vb, .int .i64 0]) (by simp [results, Tryd.results39, go_sem]) rfl ?_
        exact ⟨_, _, by rw [HE.out], by rw [HVL.out, HE.out]; exact HVA8.out, by rw [HVK.out, HE.out]; exact HVB8.out, HE7.out⟩
end Go.Proofs.YtcoiahjehlplfaaDoor
/- The reference's has and without. -/
namespace Go.Proofs.YtcoiahjehlplfaaDoor
open Go.RowKit Go.Shelf Go.Lib
set_option maxRecDepth 100000
set_option linter.unusedSimpArgs false

theorem has_any (l : List Int) (v : Value) (x : Int) (w : World) (hs : SlI w v l) :
    Calls Tryd.prog 128 #[v, .int .i64 x] w fun e w' => e = .returned (.bool (l.any fun y => decide (x = y))) ∧ Ext w w' := by
  have HS := Lib.hid hs
  obtain ⟨A, n, c, rfl, hn, hlc, hcm⟩ := hs.form
  clear hs
  go_enter Tryd.func128, Tryd.ntmps128
  go_wp2
  go_loopg [6, 9] n (fun gg _ s9 wr => ∃ kk : Nat, kk ≤ n ∧ n - kk ≤ gg ∧ s9 = .int .i64 kk ∧ Aside (Ext w wr) ∧ Aside (((l.take kk).any fun y => decide (x = y)) = false))
  case atStart => exact ⟨0, by omega, by omega, rfl, Ext.refl _, by show (_ = false); simp⟩
  case round =>
    obtain ⟨kk, hkk, hgg, rfl, EX, FA⟩ := hrel
    by_cases hlt : kk < n
    · have hltz : (kk : Int) < (n : Int) := by omega
      obtain ⟨bb, off, y, rfl, hy, hb, hcell⟩ := HS.out.at_ hlt
      have c0 := SlI.cell hcell EX.out
      have HTK := Lib.hid (show (l.take (kk + 1)) = l.take kk ++ [y] by rw [List.take_add_one, hy]; rfl)
      have HM := Lib.hid (List.mem_of_getElem? hy)
      clear hy hcell
      by_cases hxy : y = x
      · subst hxy
        have HA := Lib.hid (show (l.any fun z => decide (y = z)) = true from List.any_eq_true.2 ⟨y, HM.out, by simp⟩)
        go_wp2
        go_ret
        exact ⟨by rw [HA.out]; rfl, EX.out⟩
      · have hyb : (y == x) = false := by simpa using hxy
        have HF := Lib.hid (show ((l.take (kk + 1)).any fun z => decide (x = z)) = false by rw [HTK.out, List.any_append, FA.out]; simp; exact fun e => hxy e.symm)
        go_wp2
        go_roundg (n - (kk + 1))
        case measure => omega
        case rel => exact ⟨kk + 1, by omega, by omega, by simp, EX.out, HF.out⟩
    · have HA := Lib.hid (show (l.any fun y => decide (x = y)) = false by have := FA.out; rwa [List.take_of_length_le (by have := hn.out; omega)] at this)
      go_wp2
      go_ret
      exact ⟨by rw [HA.out]; rfl, EX.out⟩

theorem filter_snoc {α : Type} (f : α → Bool) {l : List α} {k : Nat} {x : α} (h : l[k]? = some x) : (l.take (k + 1)).filter f = (l.take k).filter f ++ (if f x then [x] else []) := by
  rw [List.take_add_one, h, List.filter_append]
  simp only [Option.toList_some, List.filter_cons, List.filter_nil]
theorem encD_1 (x : Draw) : ∀ u ∈ encD x, u.oneCell' = true := by intro u hu; simp at hu; rcases hu with rfl | rfl | rfl | rfl <;> rfl
theorem encW_1 (x : Weigh) : ∀ u ∈ encW x, u.oneCell' = true := by intro u hu; simp at hu; rcases hu with rfl | rfl | rfl | rfl <;> rfl

set_option maxHeartbeats 4000000 in
theorem refWithout_any (b : Bale) (l k : List Int) (dv wv lv kv : Value) (w : World) (hd : SlD w dv b.draws) (hw : SlW w wv b.weighs) (hl : SlI w lv l) (hk : SlI w kv k) (hld : b.draws.length ≤ 1000) (hlw : b.weighs.length ≤ 1000) :
    Calls Tryd.prog 100 #[valB b dv wv, lv, kv] w fun e w' => (∃ v, e = .returned v ∧ TwinV (withB b l k) w.heap.size v w') ∧ Ext w w' := by
  have HD := Lib.hid hd; have HW := Lib.hid hw; have HL := Lib.hid hl; have HK := Lib.hid hk
  obtain ⟨A, n, cp, rfl, hn, hlc, hcm⟩ := hd.form
  obtain ⟨A2, n2, cp2, rfl, hn2, hlc2, hcm2⟩ := hw.form
  clear hd hw hl hk
  go_enter Tryd.func100, Tryd.ntmps100
  go_wp2_with fail
  refine (twin_any b _ _ _ ((HD.out.ext (Ext.al _ _)).ext (Ext.al _ _)) ((HW.out.ext (Ext.al _ _)).ext (Ext.al _ _)) hld hlw).mono ?_
  rintro e w2 ⟨⟨v, rfl, dv, wv, rfl, o1, o2⟩, hE2⟩
  obtain ⟨Ad, nd, cd, rfl, -, -, -⟩ := (show SlD w2 dv b.draws from o1.sl (fun _ => rfl)).form
  obtain ⟨Aw, nw, cw, rfl, -, -, -⟩ := (show SlW w2 wv b.weighs from o2.sl (fun _ => rfl)).form
  have HE2 := Lib.hid (((Ext.al w _).alloc _ : Ext w _).trans hE2)
  have HB0 := Lib.hid (((Blk.new w 27 #[.int .i64 b.id, .int .i64 b.layers, .int .i64 b.dry.lo, .int .i64 b.dry.hi, .slice A n cp, .slice A2 n2 cp2]).alloc (.cells #[.int .i64 0, .int .i64 0, .int .i64 0, .int .i64 0, .slice none 0 0, .slice none 0 0] 27)).ext hE2)
  have HB1 := Lib.hid ((Blk.at_ (t := 27) (cs := #[.int .i64 0, .int .i64 0, .int .i64 0, .int .i64 0, .slice none 0 0, .slice none 0 0]) (w := w.alloc (.cells #[.int .i64 b.id, .int .i64 b.layers, .int .i64 b.dry.lo, .int .i64 b.dry.hi, .slice A n cp, .slice A2 n2 cp2] 27)) (g := w.heap.size + 1) (by simp)).ext hE2)
  have hz0 := HB1.out.lt
  have hz1 : w.heap.size < w2.heap.size := HB0.out.lt
  clear o1 o2 hE2
  have x0 := HB0.out.cell 4
  have x1 := HB0.out.cell 5
  simp at x0 x1
  dsimp only [valB]
  go_wp2_with fail
  clear x0 x1
  go_loopg [9, 19] n (fun gg _ s19 wr => ∃ (kk : Nat) (u : Value), kk ≤ n ∧ n - kk ≤ gg ∧ s19 = .int .i64 kk ∧ Aside (Blk wr w2.heap.size 27 #[.int .i64 b.id, .int .i64 b.layers, .int .i64 b.dry.lo, .int .i64 b.dry.hi, u, .slice none 0 0]) ∧ Aside (Own encD 63 4 wr (w2.heap.size + 1) u ((b.draws.take kk).filter fun x => !(l.any fun y => decide (x.number = y)))) ∧ Aside (Ext w2 wr))
  case atStart => exact ⟨0, .slice none 0 0, by omega, by omega, rfl, Blk.new _ _ _, Own.nil _ _, Ext.al _ _⟩
  case round =>
    obtain ⟨kk, u, hkk, hgg, rfl, BK, OW, EX⟩ := hrel
    obtain ⟨Au, nu, cu, rfl, -, -, -⟩ := (show SlD wr u _ from OW.out.sl (fun _ => rfl)).form
    have y0 := BK.out.cell 0
    have y1 := BK.out.cell 1
    have y2 := BK.out.cell 2
    have y3 := BK.out.cell 3
    have y4 := BK.out.cell 4
    have y5 := BK.out.cell 5
    have yl := BK.out.lt
    have yf := BK.out.frozen
    simp at y0 y1 y2 y3 y4 y5
    have X0 := Lib.hid (HB0.out.ext EX.out)
    have x4 := X0.out.cell 4
    have x5 := X0.out.cell 5
    have xl := X0.out.lt
    simp at x4 x5
    by_cases hlt : kk < n
    · have hltz : (kk : Int) < (n : Int) := by omega
      obtain ⟨bb, off, x, rfl, hx, hbb, hxc⟩ := HD.out.at_ hlt
      obtain ⟨c0, c1, c2, c3⟩ := SlD.cells hxc (HE2.out.trans EX.out)
      have HFS := Lib.hid (filter_snoc (fun x : Draw => !(l.any fun y => decide (x.number = y))) hx)
      have HLN := Lib.hid (show ((b.draws.take kk).filter fun x => !(l.any fun y => decide (x.number = y))).length < 100000000000 from Nat.lt_of_le_of_lt (List.length_filter_le _ _) (by rw [List.length_take]; omega))
      clear hx hxc
      have HA := Lib.hid (has_any l _ x.number (wr.alloc (.cells #[.int .i64 x.number, .int .i64 x.layer, .int .i64 x.grade.lo, .int .i64 x.grade.hi] 63)) ((HL.out.ext (HE2.out.trans EX.out)).ext (Ext.al _ _)))
      go_wp2_with fail
      refine HA.out.mono ?_
      rintro e w6 ⟨rfl, hE6⟩
      have HXB := Lib.hid ((Blk.new wr 63 #[.int .i64 x.number, .int .i64 x.layer, .int .i64 x.grade.lo, .int .i64 x.grade.hi]).ext hE6)
      have E6 := Lib.hid (show Ext wr w6 from (Ext.al _ _).trans hE6)
      have BK6 := Lib.hid (BK.out.ext E6.out)
      have OW6 := Lib.hid (OW.out.ext E6.out)
      have EX6 := Lib.hid (EX.out.trans E6.out)
      have s6 := E6.out.size
      clear hE6 y0 y1 y2 y3 y4 y5 yl yf x4 x5 xl c0 c1 c2 c3
      have y0 := BK6.out.cell 0
      have y1 := BK6.out.cell 1
      have y2 := BK6.out.cell 2
      have y3 := BK6.out.cell 3
      have y4 := BK6.out.cell 4
      have y5 := BK6.out.cell 5
      have yl := BK6.out.lt
      simp at y0 y1 y2 y3 y4 y5
      have b0 := HXB.out.cell 0
      have b1 := HXB.out.cell 1
      have b2 := HXB.out.cell 2
      have b3 := HXB.out.cell 3
      have bl := HXB.out.lt
      simp at b0 b1 b2 b3
      cases ha : (l.any fun y => decide (x.number = y)) with
      | true =>
        have HN := Lib.hid (show ((b.draws.take (kk + 1)).filter fun x => !(l.any fun y => decide (x.number = y))) = ((b.draws.take kk).filter fun x => !(l.any fun y => decide (x.number = y))) by rw [HFS.out, ha]; simp)
        clear ha
        go_wp2
        go_roundg (n - (kk + 1))
        case measure => omega
        case rel => exact ⟨kk + 1, _, by omega, by omega, by simp, BK6.out, by rw [HN.out]; exact OW6.out, EX6.out⟩
      | false =>
        have HN := Lib.hid (show ((b.draws.take (kk + 1)).filter fun x => !(l.any fun y => decide (x.number = y))) = ((b.draws.take kk).filter fun x => !(l.any fun y => decide (x.number = y))) ++ [x] by rw [HFS.out, ha]; simp)
        clear ha
        go_wp2_with (at_builtin; refine wpList_app encD 24 63 4 _ 32 Tryd.underlying24 info63x rfl (by decide) (by decide) (fun _ => rfl) encD_1 rfl (.tmp 29) (.tmp 31) rfl (w2.heap.size + 1) _ ((b.draws.take kk).filter fun x => !(l.any fun y => decide (x.number = y))) rfl (OW6.out.alloc _) w6.heap.size 1 x rfl (cells4 (by simp [go_sem]) (by simp [go_sem]) (by simp [go_sem]) (by simp [go_sem])) HLN.out (by simp; omega) ?_)
        intro g cap w7 hown hg2 hbel hgr
        have HO := Lib.hid (show Own encD 63 4 w7 (w2.heap.size + 1) _ ((b.draws.take (kk + 1)).filter fun x => !(l.any fun y => decide (x.number = y))) by rw [HN.out]; exact hown)
        have BK7 := Lib.hid (Blk.below (BK6.out.alloc (.cells #[.int .i64 x.number, .int .i64 x.layer, .int .i64 x.grade.lo, .int .i64 x.grade.hi] 63)) hbel (by omega))
        have EX7 := Lib.hid (show Ext w2 w7 from Below.trans (EX6.out.alloc _) (Below.mono hbel (by omega)))
        clear hown hbel hgr y0 y1 y2 y3 y4 y5 yl b0 b1 b2 b3 bl
        have y0 := BK7.out.cell 0
        have y1 := BK7.out.cell 1
        have y2 := BK7.out.cell 2
        have y3 := BK7.out.cell 3
        have y4 := BK7.out.cell 4
        have y5 := BK7.out.cell 5
        have yl := BK7.out.lt
        have yf := BK7.out.frozen
        simp at y0 y1 y2 y3 y4 y5
        go_wp2
        go_roundg (n - (kk + 1))
        case measure => omega
        case rel => exact ⟨kk + 1, _, by omega, by omega, by simp, by show Blk _ _ _ _; have := BK7.out.set_ 4 (.slice (some ⟨g, 0, none⟩) (((b.draws.take kk).filter fun x => !(l.any fun y => decide (x.number = y))).length + 1) cap); simpa using this, own_set HO.out (by omega), EX7.out.setCell (Nat.le_refl _) _⟩
    · have HW1 := Lib.hid (show ((b.draws.take kk).filter fun x => !(l.any fun y => decide (x.number = y))) = (withB b l k).draws by rw [List.take_of_length_le (by have := hn.out; omega)]; rfl)
      have OW1 := Lib.hid (show Own encD 63 4 wr (w2.heap.size + 1) (.slice Au nu cu) (withB b l k).draws by rw [← HW1.out]; exact OW.out)
      obtain ⟨u0, hu0⟩ : ∃ u0 : Value, u0 = .slice Au nu cu := ⟨_, rfl⟩
      obtain ⟨A0, n0, c0, e0⟩ : ∃ A0 n0 c0, u0 = Value.slice A0 n0 c0 := ⟨_, _, _, hu0⟩
      go_wp2_with fail
      clear y0 y1 y2 y3 y4 y5 yl yf x4 x5 xl
      rw [← hu0] at OW1 BK
      go_loopg [11, 38] n2 (fun gg _ s38 wr => ∃ (kk : Nat) (u : Value), kk ≤ n2 ∧ n2 - kk ≤ gg ∧ s38 = .int .i64 kk ∧ Aside (Blk wr w2.heap.size 27 #[.int .i64 b.id, .int .i64 b.layers, .int .i64 b.dry.lo, .int .i64 b.dry.hi, u0, u]) ∧ Aside (Own encW 65 4 wr (w2.heap.size + 1) u ((b.weighs.take kk).filter fun x => !(k.any fun y => decide (x.number = y)))) ∧ Aside (Ext w2 wr) ∧ Aside (Own encD 63 4 wr (w2.heap.size + 1) u0 (withB b l k).draws))
      case atStart => exact ⟨0, .slice none 0 0, by omega, by omega, rfl, BK.out, Own.nil _ _, EX.out, OW1.out⟩
      case round =>
        obtain ⟨kk, u, hkk, hgg, rfl, BK, OW, EX, OD⟩ := hrel
        obtain ⟨Au, nu, cu, rfl, -, -, -⟩ := (show SlW wr u _ from OW.out.sl (fun _ => rfl)).form
        have y0 := BK.out.cell 0
        have y1 := BK.out.cell 1
        have y2 := BK.out.cell 2
        have y3 := BK.out.cell 3
        have y4 := BK.out.cell 4
        have y5 := BK.out.cell 5
        have yl := BK.out.lt
        have yf := BK.out.frozen
        simp at y0 y1 y2 y3 y4 y5
        have X0 := Lib.hid (HB0.out.ext EX.out)
        have x4 := X0.out.cell 4
        have x5 := X0.out.cell 5
        have xl := X0.out.lt
        simp at x4 x5
        by_cases hlt : kk < n2
        · have hltz : (kk : Int) < (n2 : Int) := by omega
          obtain ⟨bb, off, x, rfl, hx, hbb, hxc⟩ := HW.out.at_ hlt
          obtain ⟨c0, c1, c2, c3⟩ := SlW.cells hxc (HE2.out.trans EX.out)
          have HFS := Lib.hid (filter_snoc (fun x : Weigh => !(k.any fun y => decide (x.number = y))) hx)
          have HLN := Lib.hid (show ((b.weighs.take kk).filter fun x => !(k.any fun y => decide (x.number = y))).length < 100000000000 from Nat.lt_of_le_of_lt (List.length_filter_le _ _) (by rw [List.length_take]; omega))
          clear hx hxc
          have HA := Lib.hid (has_any k _ x.number (wr.alloc (.cells #[.int .i64 x.number, .int .i64 x.pounds, .int .i64 x.damp.lo, .int .i64 x.damp.hi] 65)) ((HK.out.ext (HE2.out.trans EX.out)).ext (Ext.al _ _)))
          go_wp2_with fail
          refine HA.out.mono ?_
          rintro e w6 ⟨rfl, hE6⟩
          have HXB := Lib.hid ((Blk.new wr 65 #[.int .i64 x.number, .int .i64 x.pounds, .int .i64 x.damp.lo, .int .i64 x.damp.hi]).ext hE6)
          have E6 := Lib.hid (show Ext wr w6 from (Ext.al _ _).trans hE6)
          have BK6 := Lib.hid (BK.out.ext E6.out)
          have OW6 := Lib.hid (OW.out.ext E6.out)
          have EX6 := Lib.hid (EX.out.trans E6.out)
          have OD6 := Lib.hid (OD.out.ext E6.out)
          have s6 := E6.out.size
          clear hE6 y0 y1 y2 y3 y4 y5 yl yf x4 x5 xl c0 c1 c2 c3
          have y0 := BK6.out.cell 0
          have y1 := BK6.out.cell 1
          have y2 := BK6.out.cell 2
          have y3 := BK6.out.cell 3
          have y4 := BK6.out.cell 4
          have y5 := BK6.out.cell 5
          have yl := BK6.out.lt
          simp at y0 y1 y2 y3 y4 y5
          have b0 := HXB.out.cell 0
          have b1 := HXB.out.cell 1
          have b2 := HXB.out.cell 2
          have b3 := HXB.out.cell 3
          have bl := HXB.out.lt
          simp at b0 b1 b2 b3
          cases ha : (k.any fun y => decide (x.number = y)) with
          | true =>
            have HN := Lib.hid (show ((b.weighs.take (kk + 1)).filter fun x => !(k.any fun y => decide (x.number = y))) = ((b.weighs.take kk).filter fun x => !(k.any fun y => decide (x.number = y))) by rw [HFS.out, ha]; simp)
            clear ha
            go_wp2
            go_roundg (n2 - (kk + 1))
            case measure => omega
            case rel => exact ⟨kk + 1, _, by omega, by omega, by simp, BK6.out, by rw [HN.out]; exact OW6.out, EX6.out, OD6.out⟩
          | false =>
            have HN := Lib.hid (show ((b.weighs.take (kk + 1)).filter fun x => !(k.any fun y => decide (x.number = y))) = ((b.weighs.take kk).filter fun x => !(k.any fun y => decide (x.number = y))) ++ [x] by rw [HFS.out, ha]; simp)
            clear ha
            go_wp2_with (at_builtin; refine wpList_app encW 25 65 4 _ 32 Tryd.underlying25 info65x rfl (by decide) (by decide) (fun _ => rfl) encW_1 rfl (.tmp 48) (.tmp 50) rfl (w2.heap.size + 1) _ ((b.weighs.take kk).filter fun x => !(k.any fun y => decide (x.number = y))) rfl (OW6.out.alloc _) w6.heap.size 1 x rfl (cells4 (by simp [go_sem]) (by simp [go_sem]) (by simp [go_sem]) (by simp [go_sem])) HLN.out (by simp; omega) ?_)
            intro g cap w7 hown hg2 hbel hgr
            have HO := Lib.hid (show Own encW 65 4 w7 (w2.heap.size + 1) _ ((b.weighs.take (kk + 1)).filter fun x => !(k.any fun y => decide (x.number = y))) by rw [HN.out]; exact hown)
            have BK7 := Lib.hid (Blk.below (BK6.out.alloc (.cells #[.int .i64 x.number, .int .i64 x.pounds, .int .i64 x.damp.lo, .int .i64 x.damp.hi] 65)) hbel (by omega))
            have EX7 := Lib.hid (show Ext w2 w7 from Below.trans (EX6.out.alloc _) (Below.mono hbel (by omega)))
            have OD7 := Lib.hid (own_apart (OD6.out.alloc (.cells #[.int .i64 x.number, .int .i64 x.pounds, .int .i64 x.damp.lo, .int .i64 x.damp.hi] 65)) (OW6.out.alloc _) (by decide) hgr)
            clear hown hbel hgr y0 y1 y2 y3 y4 y5 yl b0 b1 b2 b3 bl
            have y0 := BK7.out.cell 0
            have y1 := BK7.out.cell 1
            have y2 := BK7.out.cell 2
            have y3 := BK7.out.cell 3
            have y4 := BK7.out.cell 4
            have y5 := BK7.out.cell 5
            have yl := BK7.out.lt
            have yf := BK7.out.frozen
            simp at y0 y1 y2 y3 y4 y5
            go_wp2
            go_roundg (n2 - (kk + 1))
            case measure => omega
            case rel => exact ⟨kk + 1, _, by omega, by omega, by simp, by show Blk _ _ _ _; have := BK7.out.set_ 5 (.slice (some ⟨g, 0, none⟩) (((b.weighs.take kk).filter fun x => !(k.any fun y => decide (x.number = y))).length + 1) cap); simpa using this, own_set HO.out (by omega), EX7.out.setCell (Nat.le_refl _) _, own_set OD7.out (by omega)⟩
        · have HW2 := Lib.hid (show ((b.weighs.take kk).filter fun x => !(k.any fun y => decide (x.number = y))) = (withB b l k).weighs by rw [List.take_of_length_le (by have := hn2.out; omega)]; rfl)
          have OW2 := Lib.hid (show Own encW 65 4 wr (w2.heap.size + 1) (.slice Au nu cu) (withB b l k).weighs by rw [← HW2.out]; exact OW.out)
          have HR := Lib.hid (HB1.out.ext EX.out)
          have t0 := HR.out.cell 0
          have t1 := HR.out.cell 1
          have t2 := HR.out.cell 2
          have t3 := HR.out.cell 3
          have t4 := HR.out.cell 4
          have t5 := HR.out.cell 5
          have tl := HR.out.lt
          have tf := HR.out.frozen
          simp at t0 t1 t2 t3 t4 t5
          subst e0
          clear hu0
          go_wp2
          refine ret_set6 HR.out fun W' ⟨b0, b1, b2, b3, b4, b5⟩ hW => ?_
          refine bodyPost_ret (v := valB b (.slice A0 n0 c0) (.slice Au nu cu)) (by simp [results, Tryd.results100, go_sem, b0, b1, b2, b3, b4, b5]) rfl ?_
          exact ⟨⟨_, rfl, ⟨_, _, rfl, own_mono (own_kept OD.out hW (by omega)) (by omega), own_mono (own_kept OW2.out hW (by omega)) (by omega)⟩⟩, ext_grown (HE2.out.trans EX.out) hW (by omega)⟩
end Go.Proofs.YtcoiahjehlplfaaDoor
/- core.Put and core.Weighed. -/
namespace Go.Proofs.YtcoiahjehlplfaaDoor
open Go.RowKit Go.Shelf Go.Lib
set_option maxRecDepth 100000
set_option linter.unusedSimpArgs false

def noB : Bale := ⟨0, 0, ⟨0, 0⟩, [], []⟩
theorem TwinV.no (base : Nat) (W : World) : TwinV noB base (.agg #[.int .i64 0, .int .i64 0, .int .i64 0, .int .i64 0, .slice none 0 0, .slice none 0 0]) W := ⟨_, _, rfl, Own.nil _ _, Own.nil _ _⟩
theorem own_set6 {α : Type} {enc : α → List Value} {sz base g : Nat} {e : TypeId} {w : World} {v : Value} {l : List α} (h : Own enc e sz w base v l) (hg : g < base) (y0 y1 y2 y3 y4 y5 : Value) : Own enc e sz (set6 w g y0 y1 y2 y3 y4 y5) base v l :=
  own_set (own_set (own_set (own_set (own_set (own_set h hg) hg) hg) hg) hg) hg
theorem ext_set6 {base g : Nat} {a w : World} (h : Below base a w) (hg : base ≤ g) (y0 y1 y2 y3 y4 y5 : Value) : Below base a (set6 w g y0 y1 y2 y3 y4 y5) :=
  (((((h.setCell hg y0).setCell hg y1).setCell hg y2).setCell hg y3).setCell hg y4).setCell hg y5
--DD
/-- A bale with a draw more. -/
def withD (b : Bale) (x : Draw) : Bale := ⟨b.id, b.layers, b.dry, sortD (b.draws ++ [x]) (b.draws.length + 1), b.weighs⟩
def putE (b : Bale) (x : Draw) : Int := if valid b then (if b.draws.length = 10 then 9 else if valid (withD b x) then 0 else 33) else 30
def putB (b : Bale) (x : Draw) : Bale := if putE b x = 0 then withD b x else noB

set_option maxHeartbeats 2000000 in
theorem f41_any (b : Bale) (x : Draw) (dv wv : Value) (w : World) (hT : Tab w) (hd : SlD w dv b.draws) (hw : SlW w wv b.weighs) :
    Calls Tryd.prog 41 #[valB b dv wv, valD x] w fun e w' => (∃ v, e = .returned (.tuple #[v, .int .i64 (putE b x)]) ∧ TwinV (putB b x) w.heap.size v w') ∧ Ext w w' := by
  have HT := Lib.hid hT
  have HD := Lib.hid hd
  have HW := Lib.hid hw
  obtain ⟨A, n, cp, rfl, hn, hlc, hcm⟩ := hd.form
  obtain ⟨A2, n2, cp2, rfl, hn2, hlc2, hcm2⟩ := hw.form
  clear hd hw hT
  dsimp only [valD]
  go_enter Tryd.func41, Tryd.ntmps41
  go_wp2_with fail
  generalize hw3 : (((w.alloc (.cells #[.int .i64 b.id, .int .i64 b.layers, .int .i64 b.dry.lo, .int .i64 b.dry.hi, .slice A n cp, .slice A2 n2 cp2] 27)).alloc (.cells #[.int .i64 x.number, .int .i64 x.layer, .int .i64 x.grade.lo, .int .i64 x.grade.hi] 63)).alloc (.cells #[.int .i64 0, .int .i64 0, .int .i64 0, .int .i64 0, .slice none 0 0, .slice none 0 0] 27)) = w3
  have HE3 := Lib.hid (show Ext w w3 from hw3 ▸ ((Ext.al _ _).alloc _).alloc _)
  have HZ3 := Lib.hid (show w3.heap.size = w.heap.size + 3 by rw [← hw3]; simp)
  have HB0 := Lib.hid (show Blk w3 w.heap.size 27 #[.int .i64 b.id, .int .i64 b.layers, .int .i64 b.dry.lo, .int .i64 b.dry.hi, .slice A n cp, .slice A2 n2 cp2] from hw3 ▸ ((Blk.new _ _ _).alloc _).alloc _)
  have HB1 := Lib.hid (show Blk w3 (w.heap.size + 1) 63 #[.int .i64 x.number, .int .i64 x.layer, .int .i64 x.grade.lo, .int .i64 x.grade.hi] from hw3 ▸ (Blk.at_ (by simp)).alloc _)
  have HB2 := Lib.hid (show Blk w3 (w.heap.size + 1 + 1) 27 #[.int .i64 0, .int .i64 0, .int .i64 0, .int .i64 0, .slice none 0 0, .slice none 0 0] from hw3 ▸ Blk.at_ (by simp))
  clear hw3
  refine (check_any b _ _ _ (HT.out.ext HE3.out) (HD.out.ext HE3.out) (HW.out.ext HE3.out)).mono ?_
  rintro e w4 ⟨rfl, hE4⟩
  have HE4 := Lib.hid (HE3.out.trans hE4)
  have HC0 := Lib.hid (HB0.out.ext hE4); have HC1 := Lib.hid (HB1.out.ext hE4); have HC2 := Lib.hid (HB2.out.ext hE4)
  have hz4 : w3.heap.size ≤ w4.heap.size := hE4.size
  have t0 := HC2.out.cell 0
  have t1 := HC2.out.cell 1
  have t2 := HC2.out.cell 2
  have t3 := HC2.out.cell 3
  have t4 := HC2.out.cell 4
  have t5 := HC2.out.cell 5
  have tl := HC2.out.lt
  have tf := HC2.out.frozen
  have x0 := HC0.out.cell 0
  have x1 := HC0.out.cell 1
  have x2 := HC0.out.cell 2
  have x3 := HC0.out.cell 3
  have x4 := HC0.out.cell 4
  have x5 := HC0.out.cell 5
  have xl := HC0.out.lt
  simp at t0 t1 t2 t3 t4 t5 x0 x1 x2 x3 x4 x5
  clear hE4 HB0 HB1 HB2
  cases hv : valid b with
  | false =>
    have HV := Lib.hid (show putE b x = 30 by unfold putE; rw [hv]; rfl)
    have HVB := Lib.hid (show putB b x = noB by unfold putB; rw [HV.out]; rfl)
    clear hv
    dsimp only [errB]
    go_wp2
    refine ret_set6 HC2.out fun W' ⟨b0, b1, b2, b3, b4, b5⟩ hW => ?_
    refine bodyPost_ret (v := .tuple #[.agg #[.int .i64 0, .int .i64 0, .int .i64 0, .int .i64 0, .slice none 0 0, .slice none 0 0], .int .i64 30]) (by simp [results, Tryd.results41, go_sem, b0, b1, b2, b3, b4, b5]) rfl ?_
    exact ⟨⟨_, by rw [HV.out], by rw [HVB.out]; exact TwinV.no _ _⟩, ext_grown HE4.out hW (by omega)⟩
  | true =>
    have HV := Lib.hid hv
    have HBD := Lib.hid (valid_bds hv)
    clear hv
    by_cases h10 : n = 10
    · have HVE := Lib.hid (show putE b x = 9 by unfold putE; rw [HV.out, ← hn.out, h10]; rfl)
      have HVB := Lib.hid (show putB b x = noB by unfold putB; rw [HVE.out]; rfl)
      subst h10
      dsimp only [errB]
      go_wp2
      refine ret_set6 HC2.out fun W' ⟨b0, b1, b2, b3, b4, b5⟩ hW => ?_
      refine bodyPost_ret (v := .tuple #[.agg #[.int .i64 0, .int .i64 0, .int .i64 0, .int .i64 0, .slice none 0 0, .slice none 0 0], .int .i64 9]) (by simp [results, Tryd.results41, go_sem, b0, b1, b2, b3, b4, b5]) rfl ?_
      exact ⟨⟨_, by rw [HVE.out], by rw [HVB.out]; exact TwinV.no _ _⟩, ext_grown HE4.out hW (by omega)⟩
    · have h10z : ¬ ((n : Int) = 10) := by omega
      dsimp only [errB]
      go_wp2_with fail
      refine (copied_any b _ _ _ (HD.out.ext HE4.out) (HW.out.ext HE4.out) (by have := HBD.out.nd; omega) (by have := HBD.out.nw; omega)).mono ?_
      rintro e w5 ⟨⟨v, rfl, dv, wv, rfl, o1, o2⟩, hE5⟩
      obtain ⟨Ad, nd, cd, rfl, -, -, -⟩ := (show SlD w5 dv b.draws from o1.sl (fun _ => rfl)).form
      obtain ⟨Aw, nw, cw, rfl, -, -, -⟩ := (show SlW w5 wv b.weighs from o2.sl (fun _ => rfl)).form
      have O1 := Lib.hid o1; have O2 := Lib.hid o2; have HE5 := Lib.hid hE5
      have HD0 := Lib.hid (HC0.out.ext hE5); have HD1 := Lib.hid (HC1.out.ext hE5); have HD2 := Lib.hid (HC2.out.ext hE5)
      have HZ4 := Lib.hid hz4
      clear o1 o2 hE5 HC0 HC1 HC2 x0 x1 x2 x3 x4 x5 xl t0 t1 t2 t3 t4 t5 tl tf hz4
      have x0 := HD0.out.cell 0
      have x1 := HD0.out.cell 1
      have x2 := HD0.out.cell 2
      have x3 := HD0.out.cell 3
      have x4 := HD0.out.cell 4
      have x5 := HD0.out.cell 5
      have xl := HD0.out.lt
      have xf := HD0.out.frozen
      simp at x0 x1 x2 x3 x4 x5
      have y0 := HD1.out.cell 0
      have y1 := HD1.out.cell 1
      have y2 := HD1.out.cell 2
      have y3 := HD1.out.cell 3
      have yl := HD1.out.lt
      simp at y0 y1 y2 y3
      have hz5 := HE5.out.size
      have hz3 := HZ3.out
      have hz4 := HZ4.out
      have HH := Lib.hid (show w.heap.size + 3 ≤ w4.heap.size ∧ w4.heap.size ≤ w5.heap.size by omega)
      clear hz5 hz3 hz4
      dsimp only [valB]
      go_wp2_with (at_builtin; refine wpList_app encD 24 63 4 _ 32 Tryd.underlying24 info63x rfl (by decide) (by decide) (fun _ => rfl) encD_1 rfl (.tmp 21) (.tmp 23) rfl w4.heap.size _ b.draws rfl ((own_set6 O1.out (by have := HH.out; omega) _ _ _ _ _ _).alloc _) w5.heap.size 1 x rfl (cells4 (by simp [go_sem]) (by simp [go_sem]) (by simp [go_sem]) (by simp [go_sem])) (by have := HBD.out.nd; omega) (by have := HH.out; simp; omega) ?_)
      intro g cap w6 hown hg2 hbel hgr
      have P1 := Lib.hid hown
      have P2 := Lib.hid (own_apart ((own_set6 O2.out (by have := HH.out; omega) _ _ _ _ _ _).alloc _) ((own_set6 O1.out (by have := HH.out; omega) _ _ _ _ _ _).alloc _) (by decide) hgr)
      have HF0 := Lib.hid (((HD0.out.set6 _ _ _ _ _ _).alloc _).below hbel (by have := HH.out; omega))
      have HF2 := Lib.hid ((((HD2.out.grown (grown_set (grown_set (grown_set (grown_set (grown_set (grown_set (World.grownBy.refl _ (some w.heap.size)) (p := ⟨w.heap.size, 0, none⟩) (.inl rfl) _) (p := ⟨w.heap.size, 1, none⟩) (.inl rfl) _) (p := ⟨w.heap.size, 2, none⟩) (.inl rfl) _) (p := ⟨w.heap.size, 3, none⟩) (.inl rfl) _) (p := ⟨w.heap.size, 4, none⟩) (.inl rfl) _) (p := ⟨w.heap.size, 5, none⟩) (.inl rfl) _) (by intro e; injection e with e; omega))).alloc _).below hbel (by have := HH.out; omega))
      have E6 := Lib.hid (show Ext w w6 from ((ext_set6 (HE4.out.trans HE5.out) (Nat.le_refl _) _ _ _ _ _ _).alloc (by have := HH.out; simp; omega) _).trans (Below.mono hbel (by have := HH.out; omega)))
      have hs6 := hbel.size
      simp at hs6
      have HG := Lib.hid (show w.heap.size + 3 ≤ w4.heap.size ∧ w4.heap.size ≤ g ∧ w4.heap.size ≤ w6.heap.size by have := HH.out; omega)
      clear hown hg2 hbel hgr hs6 HH O1 O2 HD0 HD1 HD2 x0 x1 x2 x3 x4 x5 xl xf y0 y1 y2 y3 yl
      have x0 := HF0.out.cell 0
      have x1 := HF0.out.cell 1
      have x2 := HF0.out.cell 2
      have x3 := HF0.out.cell 3
      have x4 := HF0.out.cell 4
      have x5 := HF0.out.cell 5
      have xl := HF0.out.lt
      have xf := HF0.out.frozen
      simp at x0 x1 x2 x3 x4 x5
      go_wp2_with fail
      generalize hw7 : w6.setCell ⟨w.heap.size, 4, none⟩ _ = w7
      have HK7 := Lib.hid (show Blk w7 w.heap.size 27 #[.int .i64 b.id, .int .i64 b.layers, .int .i64 b.dry.lo, .int .i64 b.dry.hi, .slice (some ⟨g, 0, none⟩) (b.draws.length + 1) cap, .slice Aw nw cw] from hw7 ▸ (by have := HF0.out.set_ 4 (.slice (some ⟨g, 0, none⟩) (b.draws.length + 1) cap); simpa using this))
      have HG2 := Lib.hid (show Blk w7 (w.heap.size + 1 + 1) 27 _ from hw7 ▸ HF2.out.far (by dsimp only; omega) _)
      have E7 := Lib.hid (show Ext w w7 from hw7 ▸ E6.out.setCell (Nat.le_refl _) _)
      have R1 := Lib.hid (show Own encD 63 4 w7 w4.heap.size (.slice (some ⟨g, 0, none⟩) (b.draws.length + 1) cap) _ from hw7 ▸ own_set P1.out (by have := HG.out; omega))
      have R2 := Lib.hid (show Own encW 65 4 w7 w4.heap.size (.slice Aw nw cw) b.weighs from hw7 ▸ own_set P2.out (by have := HG.out; omega))
      have hs7 : w7.heap.size = w6.heap.size := by rw [← hw7]; simp [World.setCell]
      have HG7 := Lib.hid (show w.heap.size + 3 ≤ w4.heap.size ∧ w4.heap.size ≤ g ∧ w4.heap.size ≤ w7.heap.size by have := HG.out; omega)
      clear hw7 hs7 HG P1 P2 HF0 HF2 E6 x0 x1 x2 x3 x4 x5 xl xf
      refine (f92_any (b.draws ++ [x]) g (b.draws.length + 1) cap w4.heap.size w7 (by simp) (by omega) (by have := HBD.out.nd; omega) R1.out).mono ?_
      rintro e w8 ⟨⟨v, rfl⟩, q1, G8⟩
      have HQ1 := Lib.hid (show Own encD 63 4 w8 w4.heap.size (.slice (some ⟨g, 0, none⟩) (b.draws.length + 1) cap) (withD b x).draws from q1)
      have HQ2 := Lib.hid (show Own encW 65 4 w8 w4.heap.size (.slice Aw nw cw) (withD b x).weighs from own_apart R2.out R1.out (by decide) G8)
      have hs8 := G8.size
      have HK8 := Lib.hid (HK7.out.grown G8 (by intro e; injection e with e; have := HG7.out; omega)); have HG8 := Lib.hid (HG2.out.grown G8 (by intro e; injection e with e; have := HG7.out; omega))
      have E8 := Lib.hid (show Ext w w8 from ext_grown E7.out G8 (by have := HG7.out; omega))
      have HS8 := Lib.hid (show w.heap.size + 3 ≤ w4.heap.size ∧ w4.heap.size ≤ w8.heap.size by have := HG7.out; omega)
      clear q1 G8 hs8 HK7 HG2 E7 R1 R2 HG7
      have x0 := HK8.out.cell 0
      have x1 := HK8.out.cell 1
      have x2 := HK8.out.cell 2
      have x3 := HK8.out.cell 3
      have x4 := HK8.out.cell 4
      have x5 := HK8.out.cell 5
      have xl := HK8.out.lt
      simp at x0 x1 x2 x3 x4 x5
      go_wp2_with fail
      refine (check_any (withD b x) _ _ _ (HT.out.ext E8.out) (Own.sl (fun _ => rfl) HQ1.out) (Own.sl (fun _ => rfl) HQ2.out)).mono ?_
      rintro e w9 ⟨rfl, hE9⟩
      have HE9 := Lib.hid hE9
      have HK9 := Lib.hid (HK8.out.ext hE9); have HG9 := Lib.hid (HG8.out.ext hE9)
      have hz9 : w8.heap.size ≤ w9.heap.size := hE9.size
      clear hE9 x0 x1 x2 x3 x4 x5 xl HK8 HG8
      have x0 := HK9.out.cell 0
      have x1 := HK9.out.cell 1
      have x2 := HK9.out.cell 2
      have x3 := HK9.out.cell 3
      have x4 := HK9.out.cell 4
      have x5 := HK9.out.cell 5
      have xl := HK9.out.lt
      have t0 := HG9.out.cell 0
      have t1 := HG9.out.cell 1
      have t2 := HG9.out.cell 2
      have t3 := HG9.out.cell 3
      have t4 := HG9.out.cell 4
      have t5 := HG9.out.cell 5
      have tl := HG9.out.lt
      have tf := HG9.out.frozen
      simp at x0 x1 x2 x3 x4 x5 t0 t1 t2 t3 t4 t5
      cases hv : valid (withD b x) with
      | false =>
        have HVE := Lib.hid (show putE b x = 33 by unfold putE; rw [HV.out, if_pos rfl, if_neg (by have := hn.out; omega), hv]; rfl)
        have HVB := Lib.hid (show putB b x = noB by unfold putB; rw [HVE.out]; rfl)
        clear hv
        dsimp only [errB]
        go_wp2
        refine ret_set6 HG9.out fun W' ⟨b0, b1, b2, b3, b4, b5⟩ hW => ?_
        refine bodyPost_ret (v := .tuple #[.agg #[.int .i64 0, .int .i64 0, .int .i64 0, .int .i64 0, .slice none 0 0, .slice none 0 0], .int .i64 33]) (by simp [results, Tryd.results41, go_sem, b0, b1, b2, b3, b4, b5]) rfl ?_
        exact ⟨⟨_, by rw [HVE.out], by rw [HVB.out]; exact TwinV.no _ _⟩, ext_grown (E8.out.trans HE9.out) hW (by omega)⟩
      | true =>
        have HVE := Lib.hid (show putE b x = 0 by unfold putE; rw [HV.out, if_pos rfl, if_neg (by have := hn.out; omega), hv]; rfl)
        have HVB := Lib.hid (show putB b x = withD b x by unfold putB; rw [HVE.out]; rfl)
        clear hv
        dsimp only [errB]
        go_wp2
        refine ret_set6 HG9.out fun W' ⟨b0, b1, b2, b3, b4, b5⟩ hW => ?_
        refine bodyPost_ret (v := .tuple #[valB (withD b x) (.slice (some ⟨g, 0, none⟩) (b.draws.length + 1) cap) (.slice Aw nw cw), .int .i64 0]) (by simp [results, Tryd.results41, go_sem, b0, b1, b2, b3, b4, b5, withD]) rfl ?_
        have hs := HS8.out
        refine ⟨⟨_, by rw [HVE.out], ?_⟩, ext_grown (E8.out.trans HE9.out) hW (by omega)⟩
        rw [HVB.out]
        exact ⟨_, _, rfl, own_mono (own_kept (HQ1.out.ext HE9.out) hW (by omega)) (by omega), own_mono (own_kept (HQ2.out.ext HE9.out) hW (by omega)) (by omega)⟩
--WW
/-- A bale with a weighing more. -/
def withX (b : Bale) (x : Weigh) : Bale := ⟨b.id, b.layers, b.dry, b.draws, sortW (b.weighs ++ [x]) (b.weighs.length + 1)⟩
def liftE (b : Bale) (x : Weigh) : Int := if valid b then (if b.weighs.length = 8 then 9 else if valid (withX b x) then 0 else 34) else 30
def liftB (b : Bale) (x : Weigh) : Bale := if liftE b x = 0 then withX b x else noB

set_option maxHeartbeats 2000000 in
theorem f43_any (b : Bale) (x : Weigh) (dv wv : Value) (w : World) (hT : Tab w) (hd : SlD w dv b.draws) (hw : SlW w wv b.weighs) :
    Calls Tryd.prog 43 #[valB b dv wv, valW x] w fun e w' => (∃ v, e = .returned (.tuple #[v, .int .i64 (liftE b x)]) ∧ TwinV (liftB b x) w.heap.size v w') ∧ Ext w w' := by
  have HT := Lib.hid hT
  have HD := Lib.hid hd
  have HW := Lib.hid hw
  obtain ⟨A, n, cp, rfl, hn, hlc, hcm⟩ := hd.form
  obtain ⟨A2, n2, cp2, rfl, hn2, hlc2, hcm2⟩ := hw.form
  clear hd hw hT
  dsimp only [valW]
  go_enter Tryd.func43, Tryd.ntmps43
  go_wp2_with fail
  generalize hw3 : (((w.alloc (.cells #[.int .i64 b.id, .int .i64 b.layers, .int .i64 b.dry.lo, .int .i64 b.dry.hi, .slice A n cp, .slice A2 n2 cp2] 27)).alloc (.cells #[.int .i64 x.number, .int .i64 x.pounds, .int .i64 x.damp.lo, .int .i64 x.damp.hi] 65)).alloc (.cells #[.int .i64 0, .int .i64 0, .int .i64 0, .int .i64 0, .slice none 0 0, .slice none 0 0] 27)) = w3
  have HE3 := Lib.hid (show Ext w w3 from hw3 ▸ ((Ext.al _ _).alloc _).alloc _)
  have HZ3 := Lib.hid (show w3.heap.size = w.heap.size + 3 by rw [← hw3]; simp)
  have HB0 := Lib.hid (show Blk w3 w.heap.size 27 #[.int .i64 b.id, .int .i64 b.layers, .int .i64 b.dry.lo, .int .i64 b.dry.hi, .slice A n cp, .slice A2 n2 cp2] from hw3 ▸ ((Blk.new _ _ _).alloc _).alloc _)
  have HB1 := Lib.hid (show Blk w3 (w.heap.size + 1) 65 #[.int .i64 x.number, .int .i64 x.pounds, .int .i64 x.damp.lo, .int .i64 x.damp.hi] from hw3 ▸ (Blk.at_ (by simp)).alloc _)
  have HB2 := Lib.hid (show Blk w3 (w.heap.size + 1 + 1) 27 #[.int .i64 0, .int .i64 0, .int .i64 0, .int .i64 0, .slice none 0 0, .slice none 0 0] from hw3 ▸ Blk.at_ (by simp))
  clear hw3
  refine (check_any b _ _ _ (HT.out.ext HE3.out) (HD.out.ext HE3.out) (HW.out.ext HE3.out)).mono ?_
  rintro e w4 ⟨rfl, hE4⟩
  have HE4 := Lib.hid (HE3.out.trans hE4)
  have HC0 := Lib.hid (HB0.out.ext hE4); have HC1 := Lib.hid (HB1.out.ext hE4); have HC2 := Lib.hid (HB2.out.ext hE4)
  have hz4 : w3.heap.size ≤ w4.heap.size := hE4.size
  have t0 := HC2.out.cell 0
  have t1 := HC2.out.cell 1
  have t2 := HC2.out.cell 2
  have t3 := HC2.out.cell 3
  have t4 := HC2.out.cell 4
  have t5 := HC2.out.cell 5
  have tl := HC2.out.lt
  have tf := HC2.out.frozen
  have x0 := HC0.out.cell 0
  have x1 := HC0.out.cell 1
  have x2 := HC0.out.cell 2
  have x3 := HC0.out.cell 3
  have x4 := HC0.out.cell 4
  have x5 := HC0.out.cell 5
  have xl := HC0.out.lt
  simp at t0 t1 t2 t3 t4 t5 x0 x1 x2 x3 x4 x5
  clear hE4 HB0 HB1 HB2
  cases hv : valid b with
  | false =>
    have HV := Lib.hid (show liftE b x = 30 by unfold liftE; rw [hv]; rfl)
    have HVB := Lib.hid (show liftB b x = noB by unfold liftB; rw [HV.out]; rfl)
    clear hv
    dsimp only [errB]
    go_wp2
    refine ret_set6 HC2.out fun W' ⟨b0, b1, b2, b3, b4, b5⟩ hW => ?_
    refine bodyPost_ret (v := .tuple #[.agg #[.int .i64 0, .int .i64 0, .int .i64 0, .int .i64 0, .slice none 0 0, .slice none 0 0], .int .i64 30]) (by simp [results, Tryd.results43, go_sem, b0, b1, b2, b3, b4, b5]) rfl ?_
    exact ⟨⟨_, by rw [HV.out], by rw [HVB.out]; exact TwinV.no _ _⟩, ext_grown HE4.out hW (by omega)⟩
  | true =>
    have HV := Lib.hid hv
    have HBD := Lib.hid (valid_bds hv)
    clear hv
    by_cases h10 : n2 = 8
    · have HVE := Lib.hid (show liftE b x = 9 by unfold liftE; rw [HV.out, ← hn2.out, h10]; rfl)
      have HVB := Lib.hid (show liftB b x = noB by unfold liftB; rw [HVE.out]; rfl)
      subst h10
      dsimp only [errB]
      go_wp2
      refine ret_set6 HC2.out fun W' ⟨b0, b1, b2, b3, b4, b5⟩ hW => ?_
      refine bodyPost_ret (v := .tuple #[.agg #[.int .i64 0, .int .i64 0, .int .i64 0, .int .i64 0, .slice none 0 0, .slice none 0 0], .int .i64 9]) (by simp [results, Tryd.results43, go_sem, b0, b1, b2, b3, b4, b5]) rfl ?_
      exact ⟨⟨_, by rw [HVE.out], by rw [HVB.out]; exact TwinV.no _ _⟩, ext_grown HE4.out hW (by omega)⟩
    · have h10z : ¬ ((n2 : Int) = 8) := by omega
      dsimp only [errB]
      go_wp2_with fail
      refine (copied_any b _ _ _ (HD.out.ext HE4.out) (HW.out.ext HE4.out) (by have := HBD.out.nd; omega) (by have := HBD.out.nw; omega)).mono ?_
      rintro e w5 ⟨⟨v, rfl, dv, wv, rfl, o1, o2⟩, hE5⟩
      obtain ⟨Ad, nd, cd, rfl, -, -, -⟩ := (show SlD w5 dv b.draws from o1.sl (fun _ => rfl)).form
      obtain ⟨Aw, nw, cw, rfl, -, -, -⟩ := (show SlW w5 wv b.weighs from o2.sl (fun _ => rfl)).form
      have O1 := Lib.hid o1; have O2 := Lib.hid o2; have HE5 := Lib.hid hE5
      have HD0 := Lib.hid (HC0.out.ext hE5); have HD1 := Lib.hid (HC1.out.ext hE5); have HD2 := Lib.hid (HC2.out.ext hE5)
      have HZ4 := Lib.hid hz4
      clear o1 o2 hE5 HC0 HC1 HC2 x0 x1 x2 x3 x4 x5 xl t0 t1 t2 t3 t4 t5 tl tf hz4
      have x0 := HD0.out.cell 0
      have x1 := HD0.out.cell 1
      have x2 := HD0.out.cell 2
      have x3 := HD0.out.cell 3
      have x4 := HD0.out.cell 4
      have x5 := HD0.out.cell 5
      have xl := HD0.out.lt
      have xf := HD0.out.frozen
      simp at x0 x1 x2 x3 x4 x5
      have y0 := HD1.out.cell 0
      have y1 := HD1.out.cell 1
      have y2 := HD1.out.cell 2
      have y3 := HD1.out.cell 3
      have yl := HD1.out.lt
      simp at y0 y1 y2 y3
      have hz5 := HE5.out.size
      have hz3 := HZ3.out
      have hz4 := HZ4.out
      have HH := Lib.hid (show w.heap.size + 3 ≤ w4.heap.size ∧ w4.heap.size ≤ w5.heap.size by omega)
      clear hz5 hz3 hz4
      dsimp only [valB]
      go_wp2_with (at_builtin; refine wpList_app encW 25 65 4 _ 32 Tryd.underlying25 info65x rfl (by decide) (by decide) (fun _ => rfl) encW_1 rfl (.tmp 21) (.tmp 23) rfl w4.heap.size _ b.weighs rfl ((own_set6 O2.out (by have := HH.out; omega) _ _ _ _ _ _).alloc _) w5.heap.size 1 x rfl (cells4 (by simp [go_sem]) (by simp [go_sem]) (by simp [go_sem]) (by simp [go_sem])) (by have := HBD.out.nw; omega) (by have := HH.out; simp; omega) ?_)
      intro g cap w6 hown hg2 hbel hgr
      have P1 := Lib.hid hown
      have P2 := Lib.hid (own_apart ((own_set6 O1.out (by have := HH.out; omega) _ _ _ _ _ _).alloc _) ((own_set6 O2.out (by have := HH.out; omega) _ _ _ _ _ _).alloc _) (by decide) hgr)
      have HF0 := Lib.hid (((HD0.out.set6 _ _ _ _ _ _).alloc _).below hbel (by have := HH.out; omega))
      have HF2 := Lib.hid ((((HD2.out.grown (grown_set (grown_set (grown_set (grown_set (grown_set (grown_set (World.grownBy.refl _ (some w.heap.size)) (p := ⟨w.heap.size, 0, none⟩) (.inl rfl) _) (p := ⟨w.heap.size, 1, none⟩) (.inl rfl) _) (p := ⟨w.heap.size, 2, none⟩) (.inl rfl) _) (p := ⟨w.heap.size, 3, none⟩) (.inl rfl) _) (p := ⟨w.heap.size, 4, none⟩) (.inl rfl) _) (p := ⟨w.heap.size, 5, none⟩) (.inl rfl) _) (by intro e; injection e with e; omega))).alloc _).below hbel (by have := HH.out; omega))
      have E6 := Lib.hid (show Ext w w6 from ((ext_set6 (HE4.out.trans HE5.out) (Nat.le_refl _) _ _ _ _ _ _).alloc (by have := HH.out; simp; omega) _).trans (Below.mono hbel (by have := HH.out; omega)))
      have hs6 := hbel.size
      simp at hs6
      have HG := Lib.hid (show w.heap.size + 3 ≤ w4.heap.size ∧ w4.heap.size ≤ g ∧ w4.heap.size ≤ w6.heap.size by have := HH.out; omega)
      clear hown hg2 hbel hgr hs6 HH O1 O2 HD0 HD1 HD2 x0 x1 x2 x3 x4 x5 xl xf y0 y1 y2 y3 yl
      have x0 := HF0.out.cell 0
      have x1 := HF0.out.cell 1
      have x2 := HF0.out.cell 2
      have x3 := HF0.out.cell 3
      have x4 := HF0.out.cell 4
      have x5 := HF0.out.cell 5
      have xl := HF0.out.lt
      have xf := HF0.out.frozen
      simp at x0 x1 x2 x3 x4 x5
      go_wp2_with fail
      generalize hw7 : w6.setCell ⟨w.heap.size, 5, none⟩ _ = w7
      have HK7 := Lib.hid (show Blk w7 w.heap.size 27 #[.int .i64 b.id, .int .i64 b.layers, .int .i64 b.dry.lo, .int .i64 b.dry.hi, .slice Ad nd cd, .slice (some ⟨g, 0, none⟩) (b.weighs.length + 1) cap] from hw7 ▸ (by have := HF0.out.set_ 5 (.slice (some ⟨g, 0, none⟩) (b.weighs.length + 1) cap); simpa using this))
      have HG2 := Lib.hid (show Blk w7 (w.heap.size + 1 + 1) 27 _ from hw7 ▸ HF2.out.far (by dsimp only; omega) _)
      have E7 := Lib.hid (show Ext w w7 from hw7 ▸ E6.out.setCell (Nat.le_refl _) _)
      have R1 := Lib.hid (show Own encW 65 4 w7 w4.heap.size (.slice (some ⟨g, 0, none⟩) (b.weighs.length + 1) cap) _ from hw7 ▸ own_set P1.out (by have := HG.out; omega))
      have R2 := Lib.hid (show Own encD 63 4 w7 w4.heap.size (.slice Ad nd cd) b.draws from hw7 ▸ own_set P2.out (by have := HG.out; omega))
      have hs7 : w7.heap.size = w6.heap.size := by rw [← hw7]; simp [World.setCell]
      have HG7 := Lib.hid (show w.heap.size + 3 ≤ w4.heap.size ∧ w4.heap.size ≤ g ∧ w4.heap.size ≤ w7.heap.size by have := HG.out; omega)
      clear hw7 hs7 HG P1 P2 HF0 HF2 E6 x0 x1 x2 x3 x4 x5 xl xf
      refine (f95_any (b.weighs ++ [x]) g (b.weighs.length + 1) cap w4.heap.size w7 (by simp) (by omega) (by have := HBD.out.nw; omega) R1.out).mono ?_
      rintro e w8 ⟨⟨v, rfl⟩, q1, G8⟩
      have HQ1 := Lib.hid (show Own encW 65 4 w8 w4.heap.size (.slice (some ⟨g, 0, none⟩) (b.weighs.length + 1) cap) (withX b x).weighs from q1)
      have HQ2 := Lib.hid (show Own encD 63 4 w8 w4.heap.size (.slice Ad nd cd) (withX b x).draws from own_apart R2.out R1.out (by decide) G8)
      have hs8 := G8.size
      have HK8 := Lib.hid (HK7.out.grown G8 (by intro e; injection e with e; have := HG7.out; omega)); have HG8 := Lib.hid (HG2.out.grown G8 (by intro e; injection e with e; have := HG7.out; omega))
      have E8 := Lib.hid (show Ext w w8 from ext_grown E7.out G8 (by have := HG7.out; omega))
      have HS8 := Lib.hid (show w.heap.size + 3 ≤ w4.heap.size ∧ w4.heap.size ≤ w8.heap.size by have := HG7.out; omega)
      clear q1 G8 hs8 HK7 HG2 E7 R1 R2 HG7
      have x0 := HK8.out.cell 0
      have x1 := HK8.out.cell 1
      have x2 := HK8.out.cell 2
      have x3 := HK8.out.cell 3
      have x4 := HK8.out.cell 4
      have x5 := HK8.out.cell 5
      have xl := HK8.out.lt
      simp at x0 x1 x2 x3 x4 x5
      go_wp2_with fail
      refine (check_any (withX b x) _ _ _ (HT.out.ext E8.out) (Own.sl (fun _ => rfl) HQ2.out) (Own.sl (fun _ => rfl) HQ1.out)).mono ?_
      rintro e w9 ⟨rfl, hE9⟩
      have HE9 := Lib.hid hE9
      have HK9 := Lib.hid (HK8.out.ext hE9); have HG9 := Lib.hid (HG8.out.ext hE9)
      have hz9 : w8.heap.size ≤ w9.heap.size := hE9.size
      clear hE9 x0 x1 x2 x3 x4 x5 xl HK8 HG8
      have x0 := HK9.out.cell 0
      have x1 := HK9.out.cell 1
      have x2 := HK9.out.cell 2
      have x3 := HK9.out.cell 3
      have x4 := HK9.out.cell 4
      have x5 := HK9.out.cell 5
      have xl := HK9.out.lt
      have t0 := HG9.out.cell 0
      have t1 := HG9.out.cell 1
      have t2 := HG9.out.cell 2
      have t3 := HG9.out.cell 3
      have t4 := HG9.out.cell 4
      have t5 := HG9.out.cell 5
      have tl := HG9.out.lt
      have tf := HG9.out.frozen
      simp at x0 x1 x2 x3 x4 x5 t0 t1 t2 t3 t4 t5
      cases hv : valid (withX b x) with
      | false =>
        have HVE := Lib.hid (show liftE b x = 34 by unfold liftE; rw [HV.out, if_pos rfl, if_neg (by have := hn2.out; omega), hv]; rfl)
        have HVB := Lib.hid (show liftB b x = noB by unfold liftB; rw [HVE.out]; rfl)
        clear hv
        dsimp only [errB]
        go_wp2
        refine ret_set6 HG9.out fun W' ⟨b0, b1, b2, b3, b4, b5⟩ hW => ?_
        refine bodyPost_ret (v := .tuple #[.agg #[.int .i64 0, .int .i64 0, .int .i64 0, .int .i64 0, .slice none 0 0, .slice none 0 0], .int .i64 34]) (by simp [results, Tryd.results43, go_sem, b0, b1, b2, b3, b4, b5]) rfl ?_
        exact ⟨⟨_, by rw [HVE.out], by rw [HVB.out]; exact TwinV.no _ _⟩, ext_grown (E8.out.trans HE9.out) hW (by omega)⟩
      | true =>
        have HVE := Lib.hid (show liftE b x = 0 by unfold liftE; rw [HV.out, if_pos rfl, if_neg (by have := hn2.out; omega), hv]; rfl)
        have HVB := Lib.hid (show liftB b x = withX b x by unfold liftB; rw [HVE.out]; rfl)
        clear hv
        dsimp only [errB]
        go_wp2
        refine ret_set6 HG9.out fun W' ⟨b0, b1, b2, b3, b4, b5⟩ hW => ?_
        refine bodyPost_ret (v := .tuple #[valB (withX b x) (.slice Ad nd cd) (.slice (some ⟨g, 0, none⟩) (b.weighs.length + 1) cap), .int .i64 0]) (by simp [results, Tryd.results43, go_sem, b0, b1, b2, b3, b4, b5, withX]) rfl ?_
        have hs := HS8.out
        refine ⟨⟨_, by rw [HVE.out], ?_⟩, ext_grown (E8.out.trans HE9.out) hW (by omega)⟩
        rw [HVB.out]
        exact ⟨_, _, rfl, own_mono (own_kept (HQ2.out.ext HE9.out) hW (by omega)) (by omega), own_mono (own_kept (HQ1.out.ext HE9.out) hW (by omega)) (by omega)⟩
end Go.Proofs.YtcoiahjehlplfaaDoor
/- append of a part of a list at its place: every slice of a beginning of the list keeps it. -/
namespace Go.Proofs.YtcoiahjehlplfaaDoor
open Go.RowKit Go.Shelf Go.Lib
set_option maxRecDepth 100000
set_option linter.unusedSimpArgs false

theorem take_over {β : Type} (cur X Z : List β) (h : X <+: Z ∨ Z <+: X) (hz : cur.take Z.length = Z) : (X ++ cur.drop X.length).take Z.length = Z := by
  rcases h with ⟨r, rfl⟩ | ⟨r, rfl⟩
  · have h2 : (cur.drop X.length).take r.length = r := by
      have : (cur.take (X ++ r).length).drop X.length = r := by rw [hz]; simp
      rw [List.drop_take] at this
      simpa using this
    rw [List.length_append, List.take_append, List.take_of_length_le (by omega), Nat.add_sub_cancel_left, h2]
  · simp
theorem flat_prefix {α β : Type} (enc : α → List β) {a b : List α} (h : a <+: b) : a.flatMap enc <+: b.flatMap enc := by
  obtain ⟨r, rfl⟩ := h
  rw [List.flatMap_append]
  exact List.prefix_append _ _

/-- A slice in new memory, without room if it is empty. -/
def NewF {α : Type} (enc : α → List Value) (sz : Nat) (e : TypeId) (base : Nat) (p : List α) (v : Value) (W : World) : Prop := Own enc e sz W base v p ∧ ∃ A c, v = .slice A p.length c ∧ (p.length = 0 → c = 0)
def RF {α : Type} (enc : α → List Value) (sz : Nat) (e : TypeId) (base : Nat) (F : List α) (y : α) (W W' : World) : Prop :=
  W.heap.size ≤ W'.heap.size ∧ (∀ z, z <+: F → ∀ v, Own enc e sz W base v z → Own enc e sz W' base v z) ∧ (∀ b, Blk W b e (enc y).toArray → Blk W' b e (enc y).toArray) ∧ ∀ b, Blk W b e #[] → Blk W' b e #[]
theorem RF.refl {α : Type} {enc : α → List Value} {sz : Nat} {e : TypeId} {base : Nat} {F : List α} {y : α} (W : World) : RF enc sz e base F y W W := ⟨Nat.le_refl _, fun _ _ _ h => h, fun _ h => h, fun _ h => h⟩
theorem RF.ext {α : Type} {enc : α → List Value} {sz : Nat} {e : TypeId} {base : Nat} {F : List α} {y : α} {W W' : World} (h : Ext W W') : RF enc sz e base F y W W' := ⟨h.size, fun _ _ _ k => k.ext h, fun _ k => k.ext h, fun _ k => k.ext h⟩

theorem run_appF {α : Type} {enc : α → List Value} {t ty e : TypeId} {sz : Nat} {z : Value} {bytes : Nat} (ht : Tryd.prog.underlying t = some (.slice e))
    (hinfo : (Tryd.prog.info? e).map (fun i => (i.zero, i.size, i.bytes)) = some (some z, sz, bytes)) (hzs : z.cells.size = sz) (hsz : 0 < sz) (hbytes : bytes ≤ 1000) (henc : ∀ x, (enc x).length = sz) (h1c : ∀ x, ∀ u ∈ enc x, u.oneCell' = true)
    {W : World} {base : Nat} {v x : Value} {F p m : List α} {y : α} (hv : NewF enc sz e base p v W) (hpm : p ++ m <+: F) (hF : F.length ≤ 1000) (hb : base ≤ W.heap.size) (hx : Sl enc sz W x m) :
    ∃ v' W', (Builtin.append_ #[t, t] ty #[v, x]).run Tryd.prog W = .ok v' W' ∧ NewF enc sz e base (p ++ m) v' W' ∧ RF enc sz e base F y W W' ∧ Below base W W' := by
  obtain ⟨i0, hi, hz0, hz1, hz2⟩ := info_parts hinfo
  obtain ⟨hown, A, c0, hv0, hc0⟩ := id hv
  have hpl := hpm.length_le
  rw [List.length_append] at hpl
  by_cases h0 : m.length = 0
  · have : m = [] := List.eq_nil_of_length_eq_zero h0
    subst this
    obtain ⟨A2, c2, rfl, _, _, _⟩ := hx
    obtain ⟨A3, n3, c3, e3, _, hlc, _⟩ := (Own.sl henc hown : Sl enc sz W v p).form
    have hrun := run_append_nothing (P := Tryd.prog) W t t ty e i0 ht hi A p.length c0 (by rw [hv0] at e3; injection e3 with _ e4 e5; omega) (.slice A2 0 c2)
      ⟨.inl ⟨e, ht⟩, fun _ => by simp [Builtin.lenOf], by cases A2 <;> simp [Builtin.firstCells, loadCells, loadCellsFrom], by cases A2 <;> simp [Builtin.firstCells, loadCells, loadCellsFrom], by simp, by simp⟩
    rw [← hv0] at hrun
    refine ⟨_, _, hrun, ?_, RF.refl _, Below.refl _ _⟩
    rw [List.append_nil]
    exact hv
  · obtain ⟨A2, c, rfl, hlc2, hcm2, hcell⟩ := id hx
    obtain ⟨b, off, rfl, hbb, _⟩ := hcell (by omega)
    clear hcell
    have hnews := Sl.flat henc hsz hx
    have hml := enc_len henc m
    have h1' : ∀ u ∈ m.flatMap enc, u.oneCell' = true := fun u hu => by
      obtain ⟨q, _, hq⟩ := List.mem_flatMap.1 hu
      exact h1c q u hq
    have hby : (p.length + m.length) * bytes ≤ 1000 * 1000 := Nat.mul_le_mul (by omega) hbytes
    obtain ⟨v', W', hr, h1, h2, _⟩ := run_append_own (P := Tryd.prog) W base t ty e i0 z sz bytes ht hi hz0 hz1 hz2 hzs hsz v p.length (p.flatMap enc) hown ⟨b, off, none⟩ m.length c (m.flatMap enc) hml hnews h1' (by unfold maxLen; omega) (by omega) hb
    have h1o : Own enc e sz W' base v' (p ++ m) := by unfold Own; rw [List.length_append, List.flatMap_append]; exact h1
    have hn' : NewF enc sz e base (p ++ m) v' W' := by
      obtain ⟨A4, n4, c4, e4, hn4, _, _⟩ := (Own.sl henc h1o : Sl enc sz W' v' (p ++ m)).form
      exact ⟨h1o, A4, c4, by rw [e4, hn4], fun h => by rw [List.length_append] at h; omega⟩
    refine ⟨v', W', hr, hn', ?_, (Below.refl base W).grown h2 hb (fun k hk => (World.ownsRow.lt hown k hk).1)⟩
    rcases id hown.2 with ⟨rfl, hp0⟩ | ⟨g, cap, cur, rfl, hg, hgg, hlc, hcm, hcs, htake⟩
    · have hE : Ext W W' := ⟨h2.os, h2.tape, h2.output, h2.size, fun i hi => h2.block i hi (by simp [Value.ownBlock])⟩
      exact RF.ext hE
    · have hpf := enc_len henc p
      by_cases hroom : p.length + m.length ≤ cap
      · have hl0 : p.length ≠ 0 := fun h => by
          injection hv0 with _ _ e3
          have := hc0 h
          omega
        have hmul : (p.length + m.length) * sz ≤ cap * sz := Nat.mul_le_mul_right _ hroom
        rw [Nat.add_mul] at hmul
        have hr2 := run_append_room (P := Tryd.prog) W t ty e i0 ht hi g p.length cap cur hgg ⟨b, off, none⟩ m.length c (m.flatMap enc) (by rw [hz1]; exact hml) hnews h1' (by exact hroom) (by rw [hz1, hcs, hml]; exact hmul)
        rw [hr] at hr2
        injection hr2 with hv' hW'
        rw [hz1, htake] at hW'
        have hX : ((p ++ m).flatMap enc).length = p.length * sz + (m.flatMap enc).length := by rw [List.flatMap_append, List.length_append, hpf]
        rw [← hX, ← List.flatMap_append] at hW'
        have hgW : W'.heap[g]? = some (.cells ((p ++ m).flatMap enc ++ cur.toList.drop ((p ++ m).flatMap enc).length).toArray e (0, 0)) := by
          rw [hW']; exact setRow_heap W g cur _ e _ hgg
        have hsz' : ((p ++ m).flatMap enc ++ cur.toList.drop ((p ++ m).flatMap enc).length).toArray.size = cap * sz := by
          simp only [List.size_toArray, List.length_append, List.length_drop, Array.length_toList, hcs]
          rw [hX, hml]; omega
        have hoth : ∀ k, k ≠ g → W'.heap[k]? = W.heap[k]? := fun k hk => by rw [hW']; exact setRow_other W g k _ hk
        have hne : ∀ b2 cs, Blk W b2 e cs → cs.size ≤ sz → b2 ≠ g := by
          intro b2 cs hB hs he
          subst he
          unfold Blk at hB
          rw [hgg] at hB
          injection hB with hB
          injection hB with e1 _ _
          rw [← e1, hcs] at hs
          have : cap ≤ 1 := Nat.le_of_mul_le_mul_right (by omega) hsz
          omega
        refine ⟨h2.size, fun z' hz v2 ho => ?_, fun b2 hB => (hoth b2 (hne b2 _ hB (by simp [henc]))).trans hB, fun b2 hB => (hoth b2 (hne b2 _ hB (by simp))).trans hB⟩
        rcases id ho.2 with ⟨rfl, hn⟩ | ⟨g2, cap2, cur2, rfl, hg2, hgg2, hlc2, hcm2, hcs2, ht2⟩
        · exact ⟨ho.1, .inl ⟨rfl, hn⟩⟩
        · refine ⟨ho.1, .inr ?_⟩
          by_cases he : g2 = g
          · subst he
            rw [hgg] at hgg2
            injection hgg2 with hgg2
            injection hgg2 with e1 _ _
            subst e1
            refine ⟨g2, cap2, _, rfl, hg2, hgW, hlc2, hcm2, by rw [hsz']; omega, ?_⟩
            have := take_over cur.toList ((p ++ m).flatMap enc) (z'.flatMap enc) ((List.prefix_or_prefix_of_prefix hpm hz).imp (flat_prefix enc) (flat_prefix enc)) (by rw [enc_len henc]; exact ht2)
            rw [enc_len henc z'] at this
            exact this
          · exact ⟨g2, cap2, cur2, rfl, hg2, (hoth g2 he).trans hgg2, hlc2, hcm2, by omega, ht2⟩
      · have holds : ∀ j u, (p.flatMap enc)[j]? = some u → W.cell? ((⟨g, 0, none⟩ : Addr).add j) = some u := World.ownsRow.cells hown (g := g) rfl
        have hr2 := run_append_grow (P := Tryd.prog) W t ty e i0 z ht hi hz0 ⟨g, 0, none⟩ p.length cap (p.flatMap enc) (by rw [hz1]; exact hpf) holds ⟨b, off, none⟩ m.length c (m.flatMap enc) (by rw [hz1]; exact hml) hnews (by omega) (by omega) (growslice_fits (by omega) (by rw [hz2]; omega))
        rw [hr] at hr2
        injection hr2 with hv' hW'
        subst hW'
        exact RF.ext ((Ext.refl W).drew.alloc _)
end Go.Proofs.YtcoiahjehlplfaaDoor
