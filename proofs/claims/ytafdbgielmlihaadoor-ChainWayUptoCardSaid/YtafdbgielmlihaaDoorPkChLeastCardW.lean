/- The outright laws' alive (layer 6): the chapter's examples hold. -/
import Derived.Test.YtafdbgielmlihaaDoorPkChLeastCardS
import Derived.Test.YtafdbgielmlihaaDoorPkChLeastCardN
import Derived.Test.YtafdbgielmlihaaDoorPkChLeastCardT
import Derived.Test.YtafdbgielmlihaaDoorPkChLeastCardP
import Derived.Test.YtafdbgielmlihaaDoorPkChLeastCardV
import Derived.Test.YtafdbgielmlihaaDoorPkChLeastCardH
import Derived.Test.YtafdbgielmlihaaDoorPkChLeastCardU
import Derived.Test.YtafdbgielmlihaaDoorPkChLeastCardD
import Derived.Test.YtafdbgielmlihaaDoorPkChLeastCardE
namespace Go.Proofs.YtafdbgielmlihaaDoor
open Go.RowKit Go.Shelf Go.Lib
set_option maxRecDepth 100000
set_option linter.unusedSimpArgs false

def ringR (v : Value) (w : World) : Prop := ∃ base, TwinC ringC base v w
theorem rOwed (w : World) (v : Value) (hT : Tab w) (tv : ringR v w) : Calls Tryd.prog 20 #[v] w (ListE [-4, -1, 3, 2] 0 w) := by
  obtain ⟨base, hv, sv, rfl, o1, o2⟩ := tv
  have h := owed_any ringC hv sv w hT (o1.sl fun _ => rfl) (o2.sl fun _ => rfl) (by decide)
  rw [ring_owed, ring_check] at h
  exact h
theorem rClose (w : World) (v : Value) (hT : Tab w) (tv : ringR v w) : Calls Tryd.prog 22 #[v] w (SumE [2, 1, 0, 2, 2] 0 w) := by
  obtain ⟨base, hv, sv, rfl, o1, o2⟩ := tv
  have h := close_any ringC _ hv sv w ring_closeOf hT (o1.sl fun _ => rfl) (o2.sl fun _ => rfl) (by decide)
  rw [ring_check] at h
  exact h
theorem rProof (w : World) (v : Value) (hT : Tab w) (tv : ringR v w) : Calls Tryd.prog 33 #[v] w (ListE [0, 1, 2, 2] 0 w) := by
  obtain ⟨base, hv, sv, rfl, o1, o2⟩ := tv
  have h := proof_any ringC _ _ hv sv w ring_closeOf ring_proof hT (o1.sl fun _ => rfl) (o2.sl fun _ => rfl) (by decide)
  rw [ring_check] at h
  exact h
theorem rRange (w : World) (v : Value) (hT : Tab w) (tv : ringR v w) : Calls Tryd.prog 35 #[v, .int .i64 1] w (SpanE 2 2 0 w) := by
  obtain ⟨base, hv, sv, rfl, o1, o2⟩ := tv
  have h := range_any ringC 1 2 2 hv sv w ring_range1 hT (o1.sl fun _ => rfl) (o2.sl fun _ => rfl) (by decide)
  rw [show rangeE ringC 1 = 0 by kernel_rfl] at h
  exact h
theorem rPasses (w : World) (v : Value) (hT : Tab w) (tv : ringR v w) : Calls Tryd.prog 28 #[v] w (ListE [2] 0 w) := by
  obtain ⟨base, hv, sv, rfl, o1, o2⟩ := tv
  have h := passes_any ringC _ hv sv w ring_closeOf hT (o1.sl fun _ => rfl) (o2.sl fun _ => rfl) (by decide)
  rw [ring_passes, ring_check] at h
  exact h
theorem rHands (w : World) (v : Value) (hT : Tab w) (tv : ringR v w) : Calls Tryd.prog 30 #[v] w (HandE [⟨1, 3, 3⟩, ⟨1, 4, 1⟩, ⟨2, 4, 1⟩] 0 w) := by
  obtain ⟨base, hv, sv, rfl, o1, o2⟩ := tv
  have h := hands_any ringC _ hv sv w ring_closeOf hT (o1.sl fun _ => rfl) (o2.sl fun _ => rfl) (by decide)
  rw [ring_hands, ring_check] at h
  exact h
theorem rPays (w : World) (v : Value) (hT : Tab w) (tv : ringR v w) : Calls Tryd.prog 37 #[v, .int .i64 505] w (ListE [-60, 30, 30, 0] 0 w) := by
  obtain ⟨base, hv, sv, rfl, o1, o2⟩ := tv
  have h := pays_any ringC _ 505 hv sv w ring_closeOf hT (o1.sl fun _ => rfl) (o2.sl fun _ => rfl) (by decide)
  rw [ring_pays, show paysE ringC 505 = 0 by kernel_rfl] at h
  exact h
theorem rLoses (w : World) (v : Value) (hT : Tab w) (tv : ringR v w) : Calls Tryd.prog 39 #[v, .int .i64 2, valSp ⟨500, 520⟩] w (SpansE [⟨0, 0⟩, ⟨0, 0⟩, ⟨0, 40⟩, ⟨0, 30⟩] 0 w) := by
  obtain ⟨base, hv, sv, rfl, o1, o2⟩ := tv
  have h := loses_any ringC 2 ⟨500, 520⟩ hv sv w hT (o1.sl fun _ => rfl) (o2.sl fun _ => rfl) (by decide)
  rw [ring_loses, show losesE ringC 2 ⟨500, 520⟩ = 0 by kernel_rfl] at h
  exact h
theorem rWorst (w : World) (v : Value) (hT : Tab w) (tv : ringR v w) : Calls Tryd.prog 41 #[v, valSp ⟨500, 520⟩] w (WorstQ (1, 130) 0 w) := by
  obtain ⟨base, hv, sv, rfl, o1, o2⟩ := tv
  have h := worst_any ringC ⟨500, 520⟩ hv sv w hT (o1.sl fun _ => rfl) (o2.sl fun _ => rfl) (by decide)
  rw [ring_worst, show worstE ringC ⟨500, 520⟩ = 0 by kernel_rfl] at h
  exact h
theorem rAdds (w : World) (v : Value) (hT : Tab w) (tv : ringR v w) : Calls Tryd.prog 51 #[v, valL ring6] w (NumE (-4) 0 w) := by
  obtain ⟨base, hv, sv, rfl, o1, o2⟩ := tv
  have h := adds_any ringC ring6 (-4) hv sv w ring_adds hT (o1.sl fun _ => rfl) (o2.sl fun _ => rfl) (by decide) (by decide)
  rw [show addsE ringC ring6 = 0 by kernel_rfl] at h
  exact h
theorem rWay (w : World) (v : Value) (hT : Tab w) (tv : ringR v w) : Calls Tryd.prog 53 #[v, .int .i64 1, .int .i64 4] w (ListQ [1, 4] 0 w) := by
  obtain ⟨base, hv, sv, rfl, o1, o2⟩ := tv
  have h := way_any ringC 1 4 _ _ hv sv w ring_way hT (o1.sl fun _ => rfl) (o2.sl fun _ => rfl) (by decide)
  skip
  exact h
theorem rStop (w : World) (v : Value) (hT : Tab w) (tv : ringR v w) : Calls Tryd.prog 48 #[v, .int .i64 2] w (PutP 0 ⟨[1, 2, 3, 4], [⟨3, 3, 1, 3, 520⟩, ⟨5, 1, 3, 2, 515⟩]⟩ w) := by
  obtain ⟨base, hv, sv, rfl, o1, o2⟩ := tv
  have h := stop_any ringC 2 hv sv w hT (o1.sl fun _ => rfl) (o2.sl fun _ => rfl) (by decide) (by decide)
  rw [ring_stop, ring_stopE] at h
  exact h
theorem rStrike (w : World) (v lv : Value) (hT : Tab w) (tv : ringR v w) (hl : SlI w lv [3]) : Calls Tryd.prog 46 #[v, lv] w (PutP 0 ring4 w) := by
  obtain ⟨base, hv, sv, rfl, o1, o2⟩ := tv
  have h := strike_any ringC [3] hv sv lv w hT (o1.sl fun _ => rfl) (o2.sl fun _ => rfl) hl (by decide) (by decide)
  rw [ring_strike, ring_strikeE] at h
  exact h
theorem rPut (w : World) (v : Value) (base : Nat) (hT : Tab w) (tv : TwinC ring4 base v w) : Calls Tryd.prog 44 #[v, valL ⟨3, 3, 1, 3, 520⟩] w (PutP 0 ringC w) := by
  obtain ⟨hv, sv, rfl, o1, o2⟩ := tv
  have h := put_any ring4 ⟨3, 3, 1, 3, 520⟩ hv sv w hT (o1.sl fun _ => rfl) (o2.sl fun _ => rfl) (by decide) (by decide)
  rw [ring_put, ring_putE] at h
  exact h
theorem ringR.ext {v : Value} {w w' : World} (h : ringR v w) (e : Ext w w') : ringR v w' := by
  obtain ⟨b, h⟩ := h; exact ⟨b, h.ext e⟩
set_option maxHeartbeats 8000000 in
theorem alive_any (w : World) (hT : Tab w) : Calls Tryd.prog 55 #[] w fun e w' => e = .returned (.bool true) ∧ Ext w w' := by
  have HT := Lib.hid hT
  have E := Lib.hid (Ext.refl w)
  clear hT
  go_enter Tryd.func55, Tryd.ntmps55
  go_wp2_with fail
  refine (ring_any _).mono ?_
  rintro e w1 ⟨⟨v, rfl, tv⟩, hE⟩
  replace E := Lib.hid (E.out.trans hE)
  have TV := Lib.hid (show ringR v w1 from ⟨_, tv⟩); clear tv hE
  go_wp2_with fail
  refine (rOwed _ _ (HT.out.ext E.out) TV.out).mono ?_
  rintro e w2 ⟨⟨u1, rfl, hu⟩, hE⟩
  replace E := Lib.hid (E.out.trans hE)
  clear TV hE
  have LA := Lib.hid hu; clear hu
  go_wp2_with fail
  refine (ring_any _).mono ?_
  rintro e w3 ⟨⟨v, rfl, tv⟩, hE⟩
  replace E := Lib.hid (E.out.trans hE)
  replace LA := Lib.hid (LA.out.ext hE)
  have TV := Lib.hid (show ringR v w3 from ⟨_, tv⟩); clear tv hE
  go_wp2_with fail
  refine (rClose _ _ (HT.out.ext E.out) TV.out).mono ?_
  rintro e w4 ⟨⟨u3, rfl, hu⟩, hE⟩
  replace E := Lib.hid (E.out.trans hE)
  replace LA := Lib.hid (LA.out.ext hE)
  clear TV hE
  have LB := Lib.hid hu; clear hu
  go_wp2_with fail
  refine (ring_any _).mono ?_
  rintro e w5 ⟨⟨v, rfl, tv⟩, hE⟩
  replace E := Lib.hid (E.out.trans hE)
  replace LA := Lib.hid (LA.out.ext hE)
  replace LB := Lib.hid (LB.out.ext hE)
  have TV := Lib.hid (show ringR v w5 from ⟨_, tv⟩); clear tv hE
  go_wp2_with fail
  refine (rProof _ _ (HT.out.ext E.out) TV.out).mono ?_
  rintro e w6 ⟨⟨u6, rfl, hu⟩, hE⟩
  replace E := Lib.hid (E.out.trans hE)
  replace LA := Lib.hid (LA.out.ext hE)
  replace LB := Lib.hid (LB.out.ext hE)
  clear TV hE
  have LC := Lib.hid hu; clear hu
  go_wp2_with fail
  refine (ring_any _).mono ?_
  rintro e w7 ⟨⟨v, rfl, tv⟩, hE⟩
  replace E := Lib.hid (E.out.trans hE)
  replace LA := Lib.hid (LA.out.ext hE)
  replace LB := Lib.hid (LB.out.ext hE)
  replace LC := Lib.hid (LC.out.ext hE)
  have TV := Lib.hid (show ringR v w7 from ⟨_, tv⟩); clear tv hE
  go_wp2_with fail
  refine (rRange _ _ (HT.out.ext E.out) TV.out).mono ?_
  rintro e w8 ⟨rfl, hE⟩
  replace E := Lib.hid (E.out.trans hE)
  replace LA := Lib.hid (LA.out.ext hE)
  replace LB := Lib.hid (LB.out.ext hE)
  replace LC := Lib.hid (LC.out.ext hE)
  clear TV hE
  go_wp2_with fail
  have BD := Lib.hid (Blk.new w8 48 #[.int .i64 2, .int .i64 2])
  replace E := Lib.hid (E.out.alloc (.cells #[.int .i64 2, .int .i64 2] 48))
  replace LA := Lib.hid (LA.out.ext (Ext.al w8 (.cells #[.int .i64 2, .int .i64 2] 48)))
  replace LB := Lib.hid (LB.out.ext (Ext.al w8 (.cells #[.int .i64 2, .int .i64 2] 48)))
  replace LC := Lib.hid (LC.out.ext (Ext.al w8 (.cells #[.int .i64 2, .int .i64 2] 48)))
  refine (ring_any _).mono ?_
  rintro e w9 ⟨⟨v, rfl, tv⟩, hE⟩
  replace E := Lib.hid (E.out.trans hE)
  replace LA := Lib.hid (LA.out.ext hE)
  replace LB := Lib.hid (LB.out.ext hE)
  replace LC := Lib.hid (LC.out.ext hE)
  replace BD := Lib.hid (BD.out.ext hE)
  have TV := Lib.hid (show ringR v w9 from ⟨_, tv⟩); clear tv hE
  go_wp2_with fail
  refine (rPasses _ _ (HT.out.ext E.out) TV.out).mono ?_
  rintro e w10 ⟨⟨u10, rfl, hu⟩, hE⟩
  replace E := Lib.hid (E.out.trans hE)
  replace LA := Lib.hid (LA.out.ext hE)
  replace LB := Lib.hid (LB.out.ext hE)
  replace LC := Lib.hid (LC.out.ext hE)
  replace BD := Lib.hid (BD.out.ext hE)
  clear TV hE
  have LP := Lib.hid hu; clear hu
  go_wp2_with fail
  refine (ring_any _).mono ?_
  rintro e w11 ⟨⟨v, rfl, tv⟩, hE⟩
  replace E := Lib.hid (E.out.trans hE)
  replace LA := Lib.hid (LA.out.ext hE)
  replace LB := Lib.hid (LB.out.ext hE)
  replace LC := Lib.hid (LC.out.ext hE)
  replace BD := Lib.hid (BD.out.ext hE)
  replace LP := Lib.hid (LP.out.ext hE)
  have TV := Lib.hid (show ringR v w11 from ⟨_, tv⟩); clear tv hE
  go_wp2_with fail
  refine (rHands _ _ (HT.out.ext E.out) TV.out).mono ?_
  rintro e w12 ⟨⟨u12, rfl, hu⟩, hE⟩
  replace E := Lib.hid (E.out.trans hE)
  replace LA := Lib.hid (LA.out.ext hE)
  replace LB := Lib.hid (LB.out.ext hE)
  replace LC := Lib.hid (LC.out.ext hE)
  replace BD := Lib.hid (BD.out.ext hE)
  replace LP := Lib.hid (LP.out.ext hE)
  clear TV hE
  have LH := Lib.hid hu; clear hu
  go_wp2_with fail
  refine (ring_any _).mono ?_
  rintro e w13 ⟨⟨v, rfl, tv⟩, hE⟩
  replace E := Lib.hid (E.out.trans hE)
  replace LA := Lib.hid (LA.out.ext hE)
  replace LB := Lib.hid (LB.out.ext hE)
  replace LC := Lib.hid (LC.out.ext hE)
  replace BD := Lib.hid (BD.out.ext hE)
  replace LP := Lib.hid (LP.out.ext hE)
  replace LH := Lib.hid (LH.out.ext hE)
  have TV := Lib.hid (show ringR v w13 from ⟨_, tv⟩); clear tv hE
  go_wp2_with fail
  refine (rPays _ _ (HT.out.ext E.out) TV.out).mono ?_
  rintro e w14 ⟨⟨u14, rfl, hu⟩, hE⟩
  replace E := Lib.hid (E.out.trans hE)
  replace LA := Lib.hid (LA.out.ext hE)
  replace LB := Lib.hid (LB.out.ext hE)
  replace LC := Lib.hid (LC.out.ext hE)
  replace BD := Lib.hid (BD.out.ext hE)
  replace LP := Lib.hid (LP.out.ext hE)
  replace LH := Lib.hid (LH.out.ext hE)
  clear TV hE
  have LQ := Lib.hid hu; clear hu
  go_wp2
  -- CUT 1
  have nq := fun a b w => neq48s a b w
  have Da := fun W (h : Ext w14 W) => (show W.cell? ⟨w8.heap.size, 0, none⟩ = some (.int .i64 2) from (BD.out.ext h).cell 0)
  have Db := fun W (h : Ext w14 W) => (show W.cell? ⟨w8.heap.size, 1, none⟩ = some (.int .i64 2) from (BD.out.ext h).cell 1)
  refine wp_region_tame (fun W => Ext w14 W) (fun W W' => Ext W W') (by kernel_rfl) 219 rfl (by decide +kernel) (Ext.refl _).drew ?_
  repeat (apply tame_q rfl; (intro ρ W hC hr hD; (obtain ⟨hrc, hrg, hrf, hrs⟩ := hr); (simp [go_sem] at hD); go_simp; first | exact ⟨⟨hC, Ext.refl _⟩, rfl⟩ | exact ⟨⟨hC, RS.refl _⟩, rfl⟩ | exact rfl); simp only [List.nil_append, List.cons_append])
  apply tame_v rfl (fun v W => SlI W v [-4, -1, 3, 2]) (fun v W W' _ hE h => h.ext hE)
  · intro ρ W hC hr hD
    obtain ⟨hrc, hrg, hrf, hrs⟩ := hr
    simp [go_sem] at hD
    go_simp
    exact ⟨⟨hC.alloc _, Ext.al _ _⟩, Own.sl (enc := encI) (sz := 1) (fun _ => rfl) (Own.lit (enc := encI) (sz := 1) (e := 3) (base := W.heap.size) (l := ([-4, -1, 3, 2] : List Int)) (fun _ => rfl) (Blk.new W 3 #[.int .i64 (-4), .int .i64 (-1), .int .i64 3, .int .i64 2]) (by simp) (Nat.le_refl _) (by decide))⟩
  simp only [List.nil_append, List.cons_append]
  apply tame_q rfl
  · intro ρ W hC hr hD
    obtain ⟨hrc, hrg, hrf, hrs⟩ := hr
    simp [go_sem] at hD
    have hL : SlI W (ρ (.tmp 61)) [-4, -1, 3, 2] := by first | exact hD.2.2.2 | exact hD.2.2.1 | exact hD.2.2 | exact hD.2.1 | exact hD.2
    go_simp
    refine (is_any [-4, -1, 3, 2] _ _ _ (LA.out.ext hC) hL).mono ?_
    rintro e w' ⟨rfl, hE⟩
    exact ⟨_, rfl, ⟨hC.trans hE, hE⟩, rfl⟩
  simp only [List.nil_append, List.cons_append]
  repeat (apply tame_q rfl; (intro ρ W hC hr hD; (obtain ⟨hrc, hrg, hrf, hrs⟩ := hr); (simp [go_sem] at hD); go_simp; first | exact ⟨⟨hC, Ext.refl _⟩, rfl⟩ | exact ⟨⟨hC, RS.refl _⟩, rfl⟩ | exact rfl); simp only [List.nil_append, List.cons_append])
  apply tame_v rfl (fun v W => SlI W v [2, 1, 0, 2, 2]) (fun v W W' _ hE h => h.ext hE)
  · intro ρ W hC hr hD
    obtain ⟨hrc, hrg, hrf, hrs⟩ := hr
    simp [go_sem] at hD
    go_simp
    exact ⟨⟨hC.alloc _, Ext.al _ _⟩, Own.sl (enc := encI) (sz := 1) (fun _ => rfl) (Own.lit (enc := encI) (sz := 1) (e := 3) (base := W.heap.size) (l := ([2, 1, 0, 2, 2] : List Int)) (fun _ => rfl) (Blk.new W 3 #[.int .i64 2, .int .i64 1, .int .i64 0, .int .i64 2, .int .i64 2]) (by simp) (Nat.le_refl _) (by decide))⟩
  simp only [List.nil_append, List.cons_append]
  apply tame_q rfl
  · intro ρ W hC hr hD
    obtain ⟨hrc, hrg, hrf, hrs⟩ := hr
    simp [go_sem] at hD
    have hL : SlI W (ρ (.tmp 67)) [2, 1, 0, 2, 2] := by first | exact hD.2.2.2 | exact hD.2.2.1 | exact hD.2.2 | exact hD.2.1 | exact hD.2
    go_simp
    refine (is_any [2, 1, 0, 2, 2] _ _ _ (LB.out.ext hC) hL).mono ?_
    rintro e w' ⟨rfl, hE⟩
    exact ⟨_, rfl, ⟨hC.trans hE, hE⟩, rfl⟩
  simp only [List.nil_append, List.cons_append]
  repeat (apply tame_q rfl; (intro ρ W hC hr hD; (obtain ⟨hrc, hrg, hrf, hrs⟩ := hr); (simp [go_sem] at hD); go_simp; first | exact ⟨⟨hC, Ext.refl _⟩, rfl⟩ | exact ⟨⟨hC, RS.refl _⟩, rfl⟩ | exact rfl); simp only [List.nil_append, List.cons_append])
  apply tame_v rfl (fun v W => SlI W v [0, 1, 2, 2]) (fun v W W' _ hE h => h.ext hE)
  · intro ρ W hC hr hD
    obtain ⟨hrc, hrg, hrf, hrs⟩ := hr
    simp [go_sem] at hD
    go_simp
    exact ⟨⟨hC.alloc _, Ext.al _ _⟩, Own.sl (enc := encI) (sz := 1) (fun _ => rfl) (Own.lit (enc := encI) (sz := 1) (e := 3) (base := W.heap.size) (l := ([0, 1, 2, 2] : List Int)) (fun _ => rfl) (Blk.new W 3 #[.int .i64 0, .int .i64 1, .int .i64 2, .int .i64 2]) (by simp) (Nat.le_refl _) (by decide))⟩
  simp only [List.nil_append, List.cons_append]
  apply tame_q rfl
  · intro ρ W hC hr hD
    obtain ⟨hrc, hrg, hrf, hrs⟩ := hr
    simp [go_sem] at hD
    have hL : SlI W (ρ (.tmp 78)) [0, 1, 2, 2] := by first | exact hD.2.2.2 | exact hD.2.2.1 | exact hD.2.2 | exact hD.2.1 | exact hD.2
    go_simp
    refine (is_any [0, 1, 2, 2] _ _ _ (LC.out.ext hC) hL).mono ?_
    rintro e w' ⟨rfl, hE⟩
    exact ⟨_, rfl, ⟨hC.trans hE, hE⟩, rfl⟩
  simp only [List.nil_append, List.cons_append]
  repeat (apply tame_q rfl; (intro ρ W hC hr hD; (obtain ⟨hrc, hrg, hrf, hrs⟩ := hr); (simp [go_sem] at hD); go_simp; first | exact ⟨⟨hC, Ext.refl _⟩, rfl⟩ | exact ⟨⟨hC, RS.refl _⟩, rfl⟩ | exact rfl); simp only [List.nil_append, List.cons_append])
  apply tame_q rfl
  · intro ρ W hC hr hD
    obtain ⟨hrc, hrg, hrf, hrs⟩ := hr
    simp [go_sem] at hD
    go_simp
    refine (span_any 2 2 _).mono ?_
    rintro e w' ⟨rfl, hE⟩
    exact ⟨_, rfl, ⟨hC.trans hE, hE⟩, rfl⟩
  simp only [List.nil_append, List.cons_append]
  repeat (apply tame_q rfl; (intro ρ W hC hr hD; (obtain ⟨hrc, hrg, hrf, hrs⟩ := hr); (simp [go_sem] at hD); go_simp; first | exact ⟨⟨hC, Ext.refl _⟩, rfl⟩ | exact ⟨⟨hC, RS.refl _⟩, rfl⟩ | exact rfl); simp only [List.nil_append, List.cons_append])
  apply tame_v rfl (fun v W => SlI W v [2]) (fun v W W' _ hE h => h.ext hE)
  · intro ρ W hC hr hD
    obtain ⟨hrc, hrg, hrf, hrs⟩ := hr
    simp [go_sem] at hD
    go_simp
    exact ⟨⟨hC.alloc _, Ext.al _ _⟩, Own.sl (enc := encI) (sz := 1) (fun _ => rfl) (Own.lit (enc := encI) (sz := 1) (e := 3) (base := W.heap.size) (l := ([2] : List Int)) (fun _ => rfl) (Blk.new W 3 #[.int .i64 2]) (by simp) (Nat.le_refl _) (by decide))⟩
  simp only [List.nil_append, List.cons_append]
  apply tame_q rfl
  · intro ρ W hC hr hD
    obtain ⟨hrc, hrg, hrf, hrs⟩ := hr
    simp [go_sem] at hD
    have hL : SlI W (ρ (.tmp 94)) [2] := by first | exact hD.2.2.2 | exact hD.2.2.1 | exact hD.2.2 | exact hD.2.1 | exact hD.2
    go_simp
    refine (is_any [2] _ _ _ (LP.out.ext hC) hL).mono ?_
    rintro e w' ⟨rfl, hE⟩
    exact ⟨_, rfl, ⟨hC.trans hE, hE⟩, rfl⟩
  simp only [List.nil_append, List.cons_append]
  repeat (apply tame_q rfl; (intro ρ W hC hr hD; (obtain ⟨hrc, hrg, hrf, hrs⟩ := hr); (simp [go_sem] at hD); go_simp; first | exact ⟨⟨hC, Ext.refl _⟩, rfl⟩ | exact ⟨⟨hC, RS.refl _⟩, rfl⟩ | exact rfl); simp only [List.nil_append, List.cons_append])
  apply tame_v rfl (fun v W => Sl encHd 3 W v [⟨1, 3, 3⟩, ⟨1, 4, 1⟩, ⟨2, 4, 1⟩]) (fun v W W' _ hE h => h.ext hE)
  · intro ρ W hC hr hD
    obtain ⟨hrc, hrg, hrf, hrs⟩ := hr
    simp [go_sem] at hD
    go_simp
    exact ⟨⟨hC.alloc _, Ext.al _ _⟩, Own.sl (enc := encHd) (sz := 3) (fun _ => rfl) (Own.lit (enc := encHd) (sz := 3) (e := 99) (base := W.heap.size) (l := ([⟨1, 3, 3⟩, ⟨1, 4, 1⟩, ⟨2, 4, 1⟩] : List Hnd)) (fun _ => rfl) (Blk.new W 99 _) rfl (Nat.le_refl _) (by decide))⟩
  simp only [List.nil_append, List.cons_append]
  apply tame_q rfl
  · intro ρ W hC hr hD
    obtain ⟨hrc, hrg, hrf, hrs⟩ := hr
    simp [go_sem] at hD
    have hL : Sl encHd 3 W (ρ (.tmp 107)) [⟨1, 3, 3⟩, ⟨1, 4, 1⟩, ⟨2, 4, 1⟩] := by first | exact hD.2.2.2 | exact hD.2.2.1 | exact hD.2.2 | exact hD.2.1 | exact hD.2
    go_simp
    refine (sameHands_any _ _ _ _ (LH.out.ext hC) hL).mono ?_
    rintro e w' ⟨rfl, hE⟩
    exact ⟨_, rfl, ⟨hC.trans hE, hE⟩, rfl⟩
  simp only [List.nil_append, List.cons_append]
  repeat (apply tame_q rfl; (intro ρ W hC hr hD; (obtain ⟨hrc, hrg, hrf, hrs⟩ := hr); (simp [go_sem] at hD); go_simp; first | exact ⟨⟨hC, Ext.refl _⟩, rfl⟩ | exact ⟨⟨hC, RS.refl _⟩, rfl⟩ | exact rfl); simp only [List.nil_append, List.cons_append])
  apply tame_v rfl (fun v W => SlI W v [-60, 30, 30, 0]) (fun v W W' _ hE h => h.ext hE)
  · intro ρ W hC hr hD
    obtain ⟨hrc, hrg, hrf, hrs⟩ := hr
    simp [go_sem] at hD
    go_simp
    exact ⟨⟨hC.alloc _, Ext.al _ _⟩, Own.sl (enc := encI) (sz := 1) (fun _ => rfl) (Own.lit (enc := encI) (sz := 1) (e := 3) (base := W.heap.size) (l := ([-60, 30, 30, 0] : List Int)) (fun _ => rfl) (Blk.new W 3 #[.int .i64 (-60), .int .i64 30, .int .i64 30, .int .i64 0]) (by simp) (Nat.le_refl _) (by decide))⟩
  simp only [List.nil_append, List.cons_append]
  apply tame_q rfl
  · intro ρ W hC hr hD
    obtain ⟨hrc, hrg, hrf, hrs⟩ := hr
    simp [go_sem] at hD
    have hL : SlI W (ρ (.tmp 114)) [-60, 30, 30, 0] := by first | exact hD.2.2.2 | exact hD.2.2.1 | exact hD.2.2 | exact hD.2.1 | exact hD.2
    go_simp
    refine (is_any [-60, 30, 30, 0] _ _ _ (LQ.out.ext hC) hL).mono ?_
    rintro e w' ⟨rfl, hE⟩
    exact ⟨_, rfl, ⟨hC.trans hE, hE⟩, rfl⟩
  simp only [List.nil_append, List.cons_append]
  repeat (apply tame_q rfl; (intro ρ W hC hr hD; (obtain ⟨hrc, hrg, hrf, hrs⟩ := hr); (simp [go_sem] at hD); go_simp; first | exact ⟨⟨hC, Ext.refl _⟩, rfl⟩ | exact ⟨⟨hC, RS.refl _⟩, rfl⟩ | exact rfl); simp only [List.nil_append, List.cons_append])
  refine tame_end 219 rfl rfl (fun ρ W hC hr hF => ?_)
  obtain ⟨hrc, hrg, hrf, hrs⟩ := hr
  simp [go_sem] at hF
  apply frame_to
  · simp (maxSteps := 4000000) [go_sem, hF, hrs]
    exact rfl
  clear hF hrs hrc hrg hrf
  clear Da Db nq
  clear LA
  clear LB
  clear LC
  clear LP
  clear LH
  clear LQ
  clear BD
  replace E := Lib.hid (E.out.trans hC)
  clear hC
  -- CUT 2
  go_wp2_with fail
  refine (ring_any _).mono ?_
  rintro e w15 ⟨⟨v, rfl, tv⟩, hE⟩
  replace E := Lib.hid (E.out.trans hE)
  have TV := Lib.hid (show ringR v w15 from ⟨_, tv⟩); clear tv hE
  go_wp2_with fail
  refine (span_any 500 520 _).mono ?_
  rintro e w16 ⟨rfl, hE⟩
  replace E := Lib.hid (E.out.trans hE)
  replace TV := Lib.hid (TV.out.ext hE); clear hE
  go_wp2_with fail
  refine (rLoses _ _ (HT.out.ext E.out) TV.out).mono ?_
  rintro e w17 ⟨⟨u16, rfl, hu⟩, hE⟩
  replace E := Lib.hid (E.out.trans hE)
  clear TV hE
  have LM := Lib.hid hu; clear hu
  go_wp2_with fail
  refine (ring_any _).mono ?_
  rintro e w18 ⟨⟨v, rfl, tv⟩, hE⟩
  replace E := Lib.hid (E.out.trans hE)
  replace LM := Lib.hid (LM.out.ext hE)
  have TV := Lib.hid (show ringR v w18 from ⟨_, tv⟩); clear tv hE
  go_wp2_with fail
  refine (span_any 500 520 _).mono ?_
  rintro e w19 ⟨rfl, hE⟩
  replace E := Lib.hid (E.out.trans hE)
  replace LM := Lib.hid (LM.out.ext hE)
  replace TV := Lib.hid (TV.out.ext hE); clear hE
  go_wp2_with fail
  refine (rWorst _ _ (HT.out.ext E.out) TV.out).mono ?_
  rintro e w20 ⟨rfl, hE⟩
  replace E := Lib.hid (E.out.trans hE)
  replace LM := Lib.hid (LM.out.ext hE)
  clear TV hE
  go_wp2_with fail
  refine (ring_any _).mono ?_
  rintro e w21 ⟨⟨v, rfl, tv⟩, hE⟩
  replace E := Lib.hid (E.out.trans hE)
  replace LM := Lib.hid (LM.out.ext hE)
  have TV := Lib.hid (show ringR v w21 from ⟨_, tv⟩); clear tv hE
  go_wp2_with fail
  refine (sale_any 6 4 1 2 500 _).mono ?_
  rintro e w22 ⟨rfl, hE⟩
  replace E := Lib.hid (E.out.trans hE)
  replace LM := Lib.hid (LM.out.ext hE)
  replace TV := Lib.hid (TV.out.ext hE); clear hE
  go_wp2_with fail
  refine (rAdds _ _ (HT.out.ext E.out) TV.out).mono ?_
  rintro e w23 ⟨rfl, hE⟩
  replace E := Lib.hid (E.out.trans hE)
  replace LM := Lib.hid (LM.out.ext hE)
  clear TV hE
  go_wp2_with fail
  refine (ring_any _).mono ?_
  rintro e w24 ⟨⟨v, rfl, tv⟩, hE⟩
  replace E := Lib.hid (E.out.trans hE)
  replace LM := Lib.hid (LM.out.ext hE)
  have TV := Lib.hid (show ringR v w24 from ⟨_, tv⟩); clear tv hE
  go_wp2_with fail
  refine (rWay _ _ (HT.out.ext E.out) TV.out).mono ?_
  rintro e w25 ⟨⟨u19, rfl, hu⟩, hE⟩
  replace E := Lib.hid (E.out.trans hE)
  replace LM := Lib.hid (LM.out.ext hE)
  clear TV hE
  have LW := Lib.hid hu; clear hu
  go_wp2_with fail
  refine (ring_any _).mono ?_
  rintro e w26 ⟨⟨v, rfl, tv⟩, hE⟩
  replace E := Lib.hid (E.out.trans hE)
  replace LM := Lib.hid (LM.out.ext hE)
  replace LW := Lib.hid (LW.out.ext hE)
  have TV := Lib.hid (show ringR v w26 from ⟨_, tv⟩); clear tv hE
  go_wp2_with fail
  have S3 := Lib.hid (show SlI (w26.alloc (.cells #[.int .i64 3] 3)) (.slice (some ⟨w26.heap.size, 0, none⟩) 1 1) [3] from Own.sl (enc := encI) (sz := 1) (fun _ => rfl) (Own.lit (enc := encI) (sz := 1) (e := 3) (base := w26.heap.size) (l := ([3] : List Int)) (fun _ => rfl) (Blk.new w26 3 #[.int .i64 3]) (by simp) (Nat.le_refl _) (by decide)))
  replace E := Lib.hid (E.out.trans (Ext.al w26 (.cells #[.int .i64 3] 3)))
  replace LM := Lib.hid (LM.out.ext (Ext.al w26 (.cells #[.int .i64 3] 3)))
  replace LW := Lib.hid (LW.out.ext (Ext.al w26 (.cells #[.int .i64 3] 3)))
  replace TV := Lib.hid (TV.out.ext (Ext.al w26 (.cells #[.int .i64 3] 3)))
  refine (rStrike _ _ _ (HT.out.ext E.out) TV.out S3.out).mono ?_
  rintro e w27 ⟨⟨u20, rfl, hx, sx, rfl, ox, px⟩, hE⟩
  replace E := Lib.hid (E.out.trans hE)
  replace LM := Lib.hid (LM.out.ext hE)
  replace LW := Lib.hid (LW.out.ext hE)
  clear TV S3 hE
  obtain ⟨Ax, nx, cx, rfl, -, -, -⟩ := (show SlI w27 hx ring4.houses from ox.sl (fun _ => rfl)).form
  obtain ⟨Bx, mx, dx, rfl, -, -, -⟩ := (show SlL w27 sx ring4.sales from px.sl (fun _ => rfl)).form
  have TX := Lib.hid (show TwinU ring4 (.agg #[.slice Ax nx cx, .slice Bx mx dx]) w27 from ⟨_, _, _, rfl, ox, px⟩); clear ox px
  -- CUT 3
  go_wp2
  have BX := Lib.hid (Blk.new w27 25 #[.slice Ax nx cx, .slice Bx mx dx])
  replace E := Lib.hid (E.out.alloc (.cells #[.slice Ax nx cx, .slice Bx mx dx] 25))
  replace LM := Lib.hid (LM.out.ext (Ext.al w27 (.cells #[.slice Ax nx cx, .slice Bx mx dx] 25)))
  replace LW := Lib.hid (LW.out.ext (Ext.al w27 (.cells #[.slice Ax nx cx, .slice Bx mx dx] 25)))
  replace TX := Lib.hid (TX.out.ext (Ext.al w27 (.cells #[.slice Ax nx cx, .slice Bx mx dx] 25)))
  obtain ⟨wa, hwa⟩ : ∃ wa, wa = (w27.alloc (.cells #[.slice Ax nx cx, .slice Bx mx dx] 25)) := ⟨_, rfl⟩
  rw [← hwa] at E LM LW TX BX ⊢
  clear hwa
  have xa := fun W (h : Ext wa W) => (show W.cell? ⟨w27.heap.size, 0, none⟩ = some (.slice Ax nx cx) from (BX.out.ext h).cell 0)
  have xb := fun W (h : Ext wa W) => (show W.cell? ⟨w27.heap.size, 1, none⟩ = some (.slice Bx mx dx) from (BX.out.ext h).cell 1)
  refine wp_region_tame_cutkD (fun W => Ext wa W) (RX 25) (XI wa.heap.size 4 6 7 21 152) (by kernel_rfl) 219 rfl 9 (by decide +kernel) (by decide +kernel) (by decide +kernel) (Ext.refl _).drew XI.start ?_
  simp only [List.take, List.drop]
  apply tameD_m rfl rfl (fun v _ => v = .agg #[.slice Ax nx cx, .slice Bx mx dx]) (fun v W W' _ hR h => h)
  · intro ρ L W hC hr hI hL hLs hD
    obtain ⟨hrc, hrg, hrf, hrs⟩ := hr
    simp [go_sem] at hD
    go_simp
    exact ⟨⟨hC, RX.ext (Ext.refl _)⟩, hI.other (Ext.refl _) (by decide) (by decide) (fun e => absurd e (by decide)) _⟩
  simp only [List.nil_append, List.cons_append]
  apply tameD_m rfl rfl (fun v _ => v = valL ⟨3, 3, 1, 3, 520⟩) (fun v W W' _ hR h => h)
  · intro ρ L W hC hr hI hL hLs hD
    obtain ⟨hrc, hrg, hrf, hrs⟩ := hr
    simp [go_sem] at hD
    go_simp
    refine (sale_any 3 3 1 3 520 _).mono ?_
    rintro e w' ⟨rfl, hE⟩
    exact ⟨_, rfl, ⟨hC.trans hE, RX.ext hE⟩, rfl, hI.other (hE) (by decide) (by decide) (fun e => absurd e (by decide)) _⟩
  simp only [List.nil_append, List.cons_append]
  apply tameD_m rfl rfl (PutV ringC) (fun v W W' _ hR h => h.rx hR)
  · intro ρ L W hC hr hI hL hLs hD
    obtain ⟨hrc, hrg, hrf, hrs⟩ := hr
    simp [go_sem] at hD
    go_simp
    obtain ⟨bx, hbx⟩ := TX.out
    refine (rPut _ _ bx (HT.out.ext (E.out.trans hC)) (hbx.ext hC)).mono ?_
    rintro e w' ⟨⟨u, rfl, hu⟩, hE⟩
    exact ⟨_, rfl, ⟨hC.trans hE, RX.ext hE⟩, ⟨u, rfl, _, hu⟩, hI.other (hE) (by decide) (by decide) (fun e => absurd e (by decide)) _⟩
  simp only [List.nil_append, List.cons_append]
  apply tameD_m rfl rfl (PutV ringC) (fun v W W' _ hR h => h.rx hR)
  · intro ρ L W hC hr hI hL hLs hD
    obtain ⟨hrc, hrg, hrf, hrs⟩ := hr
    simp [go_sem] at hD
    have hD := Lib.hid hD
    go_simp
    refine ⟨⟨hC, RX.ext (Ext.refl _)⟩, ?_⟩
    first | exact ⟨hD.out, hI.other (Ext.refl _) (by decide) (by decide) (fun e => absurd e (by decide)) _⟩ | exact hI.other (Ext.refl _) (by decide) (by decide) (fun e => absurd e (by decide)) _
  simp only [List.nil_append, List.cons_append]
  apply tameD_m rfl rfl (TwinU ringC) (fun v W W' _ hR h => h.rx hR)
  · intro ρ L W hC hr hI hL hLs hD
    obtain ⟨hrc, hrg, hrf, hrs⟩ := hr
    simp [go_sem] at hD
    obtain ⟨u, e1, hu⟩ := hD
    have hu := Lib.hid hu
    go_simp
    refine ⟨⟨hC, RX.ext (Ext.refl _)⟩, ?_⟩
    first | exact ⟨hu.out, hI.other (Ext.refl _) (by decide) (by decide) (fun _ => ⟨rfl, hL⟩) _⟩ | exact hI.other (Ext.refl _) (by decide) (by decide) (fun _ => ⟨rfl, hL⟩) _
  simp only [List.nil_append, List.cons_append]
  apply tameD_m rfl rfl (fun v _ => v = .int .i64 0) (fun v W W' _ hR h => h)
  · intro ρ L W hC hr hI hL hLs hD
    obtain ⟨hrc, hrg, hrf, hrs⟩ := hr
    simp [go_sem] at hD
    obtain ⟨u, e1, hu⟩ := hD
    clear hu
    go_simp
    exact ⟨⟨hC, RX.ext (Ext.refl _)⟩, hI.other (Ext.refl _) (by decide) (by decide) (fun e => absurd e (by decide)) _⟩
  simp only [List.nil_append, List.cons_append]
  apply tameD_m rfl rfl (fun _ _ => True) (fun v W W' _ hR h => h)
  · intro ρ L W hC hr hI hL hLs hD
    obtain ⟨hrc, hrg, hrf, hrs⟩ := hr
    simp [go_sem] at hD
    have hz := hC.size
    go_simp
    exact ⟨⟨hC.alloc _, RX.ext (Ext.al _ _)⟩, hI.made (by decide) hL hz⟩
  simp only [List.nil_append, List.cons_append]
  apply tameD_n rfl rfl
  · intro ρ L W hC hr hI hL hLs hD
    obtain ⟨hrc, hrg, hrf, hrs⟩ := hr
    simp [go_sem] at hD
    have ha : L 6 = true := hLs ⟨6, .data⟩ (by simp) rfl
    have he : L 4 = true := hLs ⟨4, .data⟩ (by simp) rfl
    obtain ⟨bu, hu, su, eV, hu1, hu2⟩ : TwinU ringC (ρ (.tmp 152)) W := by first | exact hD | exact hD.1 | exact hD.2 | exact hD.2.1 | exact hD.2.2 | exact hD.2.2.1 | exact hD.2.2.2 | exact hD.2.2.2.1 | exact hD.2.2.2.2 | exact hD.2.2.2.2.1
    obtain ⟨Au, nu, cu, rfl, -, -, -⟩ := (show SlI W hu _ from hu1.sl (fun _ => rfl)).form
    obtain ⟨Bu, mu, du, rfl, -, -, -⟩ := (show SlL W su _ from hu2.sl (fun _ => rfl)).form
    obtain ⟨g, eS, hg, hB, hS⟩ := hI.stored (by decide) ha he hL eV
    have eS' : ρ (.tmp 21) = .pointer (some ⟨g, 0, none⟩) := eS
    have hB := Lib.hid hB
    have hS := Lib.hid hS
    have hg := Lib.hid hg
    have t0 := hB.out.c2
    clear hI hLs hD hu1 hu2 eS
    go_simp
    have hC2 : Ext wa ((W.setCell ⟨g, 0, none⟩ (.slice Au nu cu)).setCell ⟨g, 1, none⟩ (.slice Bu mu du)) := (hC.setCell hg.out _).setCell hg.out _
    have hR2 : RX 25 W ((W.setCell ⟨g, 0, none⟩ (.slice Au nu cu)).setCell ⟨g, 1, none⟩ (.slice Bu mu du)) := (RX.set hB.out).trans (RX.set (hB.out.set_ 0 _))
    first | exact ⟨⟨hC2, hR2⟩, hS.out⟩ | exact ⟨hC2, hR2, hS.out⟩ | exact ⟨hC2, hS.out⟩ | (trace_state; exact ⟨hC2, hR2⟩)
  simp only [List.nil_append, List.cons_append]
  apply tameD_m rfl rfl (fun v _ => v = .int .i64 0) (fun v W W' _ hR h => h)
  · intro ρ L W hC hr hI hL hLs hD
    obtain ⟨hrc, hrg, hrf, hrs⟩ := hr
    simp [go_sem] at hD
    go_simp
    exact ⟨⟨hC, RX.ext (Ext.refl _)⟩, hI.other (Ext.refl _) (by decide) (by decide) (fun e => absurd e (by decide)) _⟩
  simp only [List.nil_append, List.cons_append]
  refine tameD_end 219 rfl rfl (fun ρ W hC hr hI hF => ?_)
  obtain ⟨hrc, hrg, hrf, hrs⟩ := hr
  simp [go_sem] at hF
  have TYf : TwinU ringC (ρ (.tmp 152)) W := by first | exact hF.2.2.2.2.1 | exact hF.2.2.2.1 | exact hF.2.2.2.2.2.1 | exact hF.2.2.1 | exact hF.2.1
  obtain ⟨gy, eS, hgy, -, hwy⟩ := hI.a rfl
  obtain ⟨y0, y1, eV, hBY⟩ := hwy rfl
  have eS' : ρ (.tmp 21) = .pointer (some ⟨gy, 0, none⟩) := eS
  have eV' : ρ (.tmp 152) = .agg #[y0, y1] := eV
  rw [eV'] at TYf
  apply frame_to
  · simp (maxSteps := 4000000) [go_sem, hF, hrs, eS', eV']
    exact rfl
  generalize ρ (.tmp 151) = vv151
  generalize ρ (.tmp 148) = vv148
  clear hF hrs hrc hrg hrf eS eS' eV eV' hI hwy
  have TY := Lib.hid TYf
  have BY := Lib.hid hBY
  clear TYf hBY hgy
  obtain ⟨wb, hwb⟩ : ∃ wb, wb = W := ⟨_, rfl⟩
  subst hwb
  clear xa xb BX TX
  replace E := Lib.hid (E.out.trans hC)
  replace LM := Lib.hid (LM.out.ext hC)
  replace LW := Lib.hid (LW.out.ext hC)
  clear hC
  go_wp2_with fail
  refine (ring_any _).mono ?_
  rintro e w28 ⟨⟨v, rfl, tv⟩, hE⟩
  replace E := Lib.hid (E.out.trans hE)
  replace LM := Lib.hid (LM.out.ext hE)
  replace LW := Lib.hid (LW.out.ext hE)
  replace TY := Lib.hid (TY.out.ext hE)
  replace BY := Lib.hid (BY.out.ext hE)
  have TV := Lib.hid (show ringR v w28 from ⟨_, tv⟩); clear tv hE
  go_wp2_with fail
  refine (rStop _ _ (HT.out.ext E.out) TV.out).mono ?_
  rintro e w29 ⟨⟨u22, rfl, hz, sz, rfl, oz, pz⟩, hE⟩
  replace E := Lib.hid (E.out.trans hE)
  replace LM := Lib.hid (LM.out.ext hE)
  replace LW := Lib.hid (LW.out.ext hE)
  replace TY := Lib.hid (TY.out.ext hE)
  replace BY := Lib.hid (BY.out.ext hE)
  clear TV hE
  obtain ⟨Az, nz, cz, rfl, -, -, -⟩ := (show SlI w29 hz _ from oz.sl (fun _ => rfl)).form
  obtain ⟨Bz, mz, dz, rfl, hmz, -, -⟩ := (show SlL w29 sz _ from pz.sl (fun _ => rfl)).form
  have emz : mz = 2 := hmz.out
  subst emz
  clear oz pz hmz
  go_wp2
  have BZ := Lib.hid (Blk.new w29 25 #[.slice Az nz cz, .slice Bz 2 dz])
  replace E := Lib.hid (E.out.alloc (.cells #[.slice Az nz cz, .slice Bz 2 dz] 25))
  replace LM := Lib.hid (LM.out.ext (Ext.al w29 (.cells #[.slice Az nz cz, .slice Bz 2 dz] 25)))
  replace LW := Lib.hid (LW.out.ext (Ext.al w29 (.cells #[.slice Az nz cz, .slice Bz 2 dz] 25)))
  replace TY := Lib.hid (TY.out.ext (Ext.al w29 (.cells #[.slice Az nz cz, .slice Bz 2 dz] 25)))
  replace BY := Lib.hid (BY.out.ext (Ext.al w29 (.cells #[.slice Az nz cz, .slice Bz 2 dz] 25)))
  obtain ⟨wc, hwc⟩ : ∃ wc, wc = w29.alloc (.cells #[.slice Az nz cz, .slice Bz 2 dz] 25) := ⟨_, rfl⟩
  rw [← hwc] at E LM LW TY BY BZ ⊢
  clear hwc
  have ya := fun W (h : Ext wc W) => (show W.cell? ⟨gy, 0, none⟩ = some y0 from (BY.out.ext h).cell 0)
  have yb := fun W (h : Ext wc W) => (show W.cell? ⟨gy, 1, none⟩ = some y1 from (BY.out.ext h).cell 1)
  have za := fun W (h : Ext wc W) => (show W.cell? ⟨w29.heap.size, 0, none⟩ = some (.slice Az nz cz) from (BZ.out.ext h).cell 0)
  have zb := fun W (h : Ext wc W) => (show W.cell? ⟨w29.heap.size, 1, none⟩ = some (.slice Bz 2 dz) from (BZ.out.ext h).cell 1)
  refine wp_region_tame (fun W => Ext wc W) (fun W W' => Ext W W') (by kernel_rfl) 219 rfl (by decide +kernel) (Ext.refl _).drew ?_
  repeat (apply tame_q rfl; (intro ρ W hC hr hD; (obtain ⟨hrc, hrg, hrf, hrs⟩ := hr); (simp [go_sem] at hD); go_simp; first | exact ⟨⟨hC, Ext.refl _⟩, rfl⟩ | exact ⟨⟨hC, RS.refl _⟩, rfl⟩ | exact rfl); simp only [List.nil_append, List.cons_append])
  apply tame_q rfl
  · intro ρ W hC hr hD
    obtain ⟨hrc, hrg, hrf, hrs⟩ := hr
    simp [go_sem] at hD
    go_simp
    refine (span_any 0 40 _).mono ?_
    rintro e w' ⟨rfl, hE⟩
    exact ⟨_, rfl, ⟨hC.trans hE, hE⟩, rfl⟩
  simp only [List.nil_append, List.cons_append]
  repeat (apply tame_q rfl; (intro ρ W hC hr hD; (obtain ⟨hrc, hrg, hrf, hrs⟩ := hr); (simp [go_sem] at hD); go_simp; first | exact ⟨⟨hC, Ext.refl _⟩, rfl⟩ | exact ⟨⟨hC, RS.refl _⟩, rfl⟩ | exact rfl); simp only [List.nil_append, List.cons_append])
  apply tame_q rfl
  · intro ρ W hC hr hD
    obtain ⟨hrc, hrg, hrf, hrs⟩ := hr
    simp [go_sem] at hD
    go_simp
    refine (span_any 0 30 _).mono ?_
    rintro e w' ⟨rfl, hE⟩
    exact ⟨_, rfl, ⟨hC.trans hE, hE⟩, rfl⟩
  simp only [List.nil_append, List.cons_append]
  repeat (apply tame_q rfl; (intro ρ W hC hr hD; (obtain ⟨hrc, hrg, hrf, hrs⟩ := hr); (simp [go_sem] at hD); go_simp; first | exact ⟨⟨hC, Ext.refl _⟩, rfl⟩ | exact ⟨⟨hC, RS.refl _⟩, rfl⟩ | exact rfl); simp only [List.nil_append, List.cons_append])
  apply tame_v rfl (fun v W => SlS W v [⟨0, 0⟩, ⟨0, 0⟩, ⟨0, 40⟩, ⟨0, 30⟩]) (fun v W W' _ hE h => h.ext hE)
  · intro ρ W hC hr hD
    obtain ⟨hrc, hrg, hrf, hrs⟩ := hr
    simp [go_sem] at hD
    go_simp
    exact ⟨⟨hC.alloc _, Ext.al _ _⟩, Own.sl (enc := encS) (sz := 2) (fun _ => rfl) (Own.lit (enc := encS) (sz := 2) (e := 48) (base := W.heap.size) (l := ([⟨0, 0⟩, ⟨0, 0⟩, ⟨0, 40⟩, ⟨0, 30⟩] : List Span)) (fun _ => rfl) (Blk.new W 48 _) rfl (Nat.le_refl _) (by decide))⟩
  simp only [List.nil_append, List.cons_append]
  apply tame_q rfl
  · intro ρ W hC hr hD
    obtain ⟨hrc, hrg, hrf, hrs⟩ := hr
    simp [go_sem] at hD
    have hL : SlS W (ρ (.tmp 167)) [⟨0, 0⟩, ⟨0, 0⟩, ⟨0, 40⟩, ⟨0, 30⟩] := by first | exact hD.2.2.2 | exact hD.2.2.1 | exact hD.2.2 | exact hD.2.1 | exact hD.2
    go_simp
    refine (sameSpans_any _ _ _ _ (LM.out.ext hC) hL).mono ?_
    rintro e w' ⟨rfl, hE⟩
    exact ⟨_, rfl, ⟨hC.trans hE, hE⟩, rfl⟩
  simp only [List.nil_append, List.cons_append]
  repeat (apply tame_q rfl; (intro ρ W hC hr hD; (obtain ⟨hrc, hrg, hrf, hrs⟩ := hr); (simp [go_sem] at hD); go_simp; first | exact ⟨⟨hC, Ext.refl _⟩, rfl⟩ | exact ⟨⟨hC, RS.refl _⟩, rfl⟩ | exact rfl); simp only [List.nil_append, List.cons_append])
  apply tame_v rfl (fun v W => SlI W v [1, 4]) (fun v W W' _ hE h => h.ext hE)
  · intro ρ W hC hr hD
    obtain ⟨hrc, hrg, hrf, hrs⟩ := hr
    simp [go_sem] at hD
    go_simp
    exact ⟨⟨hC.alloc _, Ext.al _ _⟩, Own.sl (enc := encI) (sz := 1) (fun _ => rfl) (Own.lit (enc := encI) (sz := 1) (e := 3) (base := W.heap.size) (l := ([1, 4] : List Int)) (fun _ => rfl) (Blk.new W 3 #[.int .i64 1, .int .i64 4]) (by simp) (Nat.le_refl _) (by decide))⟩
  simp only [List.nil_append, List.cons_append]
  apply tame_q rfl
  · intro ρ W hC hr hD
    obtain ⟨hrc, hrg, hrf, hrs⟩ := hr
    simp [go_sem] at hD
    have hL : SlI W (ρ (.tmp 193)) [1, 4] := by first | exact hD.2.2.2 | exact hD.2.2.1 | exact hD.2.2 | exact hD.2.1 | exact hD.2
    go_simp
    refine (is_any [1, 4] _ _ _ (LW.out.ext hC) hL).mono ?_
    rintro e w' ⟨rfl, hE⟩
    exact ⟨_, rfl, ⟨hC.trans hE, hE⟩, rfl⟩
  simp only [List.nil_append, List.cons_append]
  repeat (apply tame_q rfl; (intro ρ W hC hr hD; (obtain ⟨hrc, hrg, hrf, hrs⟩ := hr); (simp [go_sem] at hD); go_simp; first | exact ⟨⟨hC, Ext.refl _⟩, rfl⟩ | exact ⟨⟨hC, RS.refl _⟩, rfl⟩ | exact rfl); simp only [List.nil_append, List.cons_append])
  apply tame_v rfl ringR (fun v W W' _ hE h => h.ext hE)
  · intro ρ W hC hr hD
    obtain ⟨hrc, hrg, hrf, hrs⟩ := hr
    simp [go_sem] at hD
    go_simp
    refine (ring_any _).mono ?_
    rintro e w' ⟨⟨v, rfl, tv⟩, hE⟩
    exact ⟨_, rfl, ⟨hC.trans hE, hE⟩, ⟨_, tv⟩⟩
  simp only [List.nil_append, List.cons_append]
  apply tame_q rfl
  · intro ρ W hC hr hD
    obtain ⟨hrc, hrg, hrf, hrs⟩ := hr
    simp [go_sem] at hD
    have hL : ringR (ρ (.tmp 206)) W := by first | exact hD.2.2.2 | exact hD.2.2.1 | exact hD.2.2 | exact hD.2.1 | exact hD.2
    obtain ⟨bl, hl, sl, el, hl1, hl2⟩ := hL
    obtain ⟨bt, hy, sy, ey, hy1, hy2⟩ := TY.out.ext hC
    have ey0 : y0 = hy := by injection ey with ey; injection ey with ey; injection ey with ey ez
    have ey1 : y1 = sy := by injection ey with ey; injection ey with ey; injection ey with ey ez; injection ez
    subst ey0 ey1
    have hl1 := Lib.hid hl1; have hl2 := Lib.hid hl2; have hy1 := Lib.hid hy1; have hy2 := Lib.hid hy2
    go_simp
    refine (same_any ringC _ _ _ _ _ (hy1.out.sl fun _ => rfl) (hy2.out.sl fun _ => rfl) (hl1.out.sl fun _ => rfl) (hl2.out.sl fun _ => rfl)).mono ?_
    rintro e w' ⟨rfl, hE⟩
    exact ⟨_, rfl, ⟨hC.trans hE, hE⟩, rfl⟩
  simp only [List.nil_append, List.cons_append]
  repeat (apply tame_q rfl; (intro ρ W hC hr hD; (obtain ⟨hrc, hrg, hrf, hrs⟩ := hr); (simp [go_sem] at hD); go_simp; first | exact ⟨⟨hC, Ext.refl _⟩, rfl⟩ | exact ⟨⟨hC, RS.refl _⟩, rfl⟩ | exact rfl); simp only [List.nil_append, List.cons_append])
  refine tame_end 219 rfl rfl (fun ρ W hC hr hF => ?_)
  obtain ⟨hrc, hrg, hrf, hrs⟩ := hr
  simp [go_sem] at hF
  apply frame_to
  · simp (maxSteps := 4000000) [go_sem, hF, hrs]
    exact rfl
  clear hF hrs hrc hrg hrf
  clear ya yb za zb
  replace E := Lib.hid (E.out.trans hC)
  replace LM := Lib.hid (LM.out.ext hC)
  replace LW := Lib.hid (LW.out.ext hC)
  replace TY := Lib.hid (TY.out.ext hC)
  replace BY := Lib.hid (BY.out.ext hC)
  replace BZ := Lib.hid (BZ.out.ext hC)
  go_wp2
  go_ret
  exact ⟨rfl, E.out⟩
end Go.Proofs.YtafdbgielmlihaaDoor
