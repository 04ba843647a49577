/- The outright laws' alive: the chapter's examples hold. -/
import Derived.Test.YtfhmfbhpehldpaaGreatDoorPkMoreOQ
import Derived.Test.YtfhmfbhpehldpaaGreatDoorPkMoreOR
import Derived.Test.YtfhmfbhpehldpaaGreatDoorPkMoreOE
namespace Go.Proofs.YtfhmfbhpehldpaaGreatDoor
open Go.RowKit Go.Shelf Go.Lib
set_option maxRecDepth 100000
set_option linter.unusedSimpArgs false

theorem exLayer (w : World) (v : Value) (base : Nat) (hT : Tab w) (tv : TwinV (exB []) base v w) : Calls Tryz.prog 12 #[v, .int .i64 1] w fun e w' => e = .returned (.tuple #[.agg #[.int .i64 3, .int .i64 6], .int .i64 0]) ∧ Ext w w' := by
  obtain ⟨dv, wv, rfl, o1, o2⟩ := tv
  refine (layer_any (exB []) 1 dv wv w hT (o1.sl fun _ => rfl) (o2.sl fun _ => rfl)).mono fun e w' h => ⟨h.1.trans ?_, h.2⟩
  kernel_rfl
theorem exBest (w : World) (v : Value) (base : Nat) (hT : Tab w) (tv : TwinV (exB []) base v w) : Calls Tryz.prog 19 #[v] w fun e w' => e = .returned (.tuple #[.agg #[.int .i64 1, .int .i64 3], .int .i64 0]) ∧ Ext w w' := by
  obtain ⟨dv, wv, rfl, o1, o2⟩ := tv
  refine (best_any (exB []) dv wv w hT (o1.sl fun _ => rfl) (o2.sl fun _ => rfl)).mono fun e w' h => ⟨h.1.trans ?_, h.2⟩
  kernel_rfl
theorem exWorst (w : World) (v : Value) (base : Nat) (hT : Tab w) (tv : TwinV (exB []) base v w) : Calls Tryz.prog 20 #[v] w fun e w' => e = .returned (.tuple #[.agg #[.int .i64 3, .int .i64 9], .int .i64 0]) ∧ Ext w w' := by
  obtain ⟨dv, wv, rfl, o1, o2⟩ := tv
  refine (worst_any (exB []) dv wv w hT (o1.sl fun _ => rfl) (o2.sl fun _ => rfl)).mono fun e w' h => ⟨h.1.trans ?_, h.2⟩
  kernel_rfl
theorem exKind (w : World) (v : Value) (base : Nat) (hT : Tab w) (tv : TwinV (exB []) base v w) : Calls Tryz.prog 14 #[v, .int .i64 3] w fun e w' => e = .returned (.tuple #[.int .u8 1, .int .i64 0]) ∧ Ext w w' := by
  obtain ⟨dv, wv, rfl, o1, o2⟩ := tv
  refine (kindC_any (exB []) 3 dv wv w hT (o1.sl fun _ => rfl) (o2.sl fun _ => rfl)).mono fun e w' h => ⟨h.1.trans ?_, h.2⟩
  kernel_rfl
theorem exCut (w : World) (v : Value) (base : Nat) (hT : Tab w) (tv : TwinV (exB []) base v w) : Calls Tryz.prog 21 #[v] w fun e w' => e = .returned (.tuple #[.agg #[.int .i64 1, .int .i64 3], .int .i64 0]) ∧ Ext w w' := by
  obtain ⟨dv, wv, rfl, o1, o2⟩ := tv
  refine (cut_any (exB []) dv wv w hT (o1.sl fun _ => rfl) (o2.sl fun _ => rfl)).mono fun e w' h => ⟨h.1.trans ?_, h.2⟩
  kernel_rfl
theorem exAsk (w : World) (v : Value) (base : Nat) (hT : Tab w) (tv : TwinV (exB []) base v w) : Calls Tryz.prog 22 #[v] w fun e w' => e = .returned (.tuple #[.int .i64 2, .int .i64 3, .int .i64 0]) ∧ Ext w w' := by
  obtain ⟨dv, wv, rfl, o1, o2⟩ := tv
  refine (ask_any (exB []) dv wv w hT (o1.sl fun _ => rfl) (o2.sl fun _ => rfl)).mono fun e w' h => ⟨h.1.trans ?_, h.2⟩
  kernel_rfl
theorem exDry (w : World) (v : Value) (base : Nat) (hT : Tab w) (tv : TwinV (exB []) base v w) : Calls Tryz.prog 15 #[v] w fun e w' => e = .returned (.tuple #[.agg #[.int .i64 441, .int .i64 452], .int .i64 0]) ∧ Ext w w' := by
  obtain ⟨dv, wv, rfl, o1, o2⟩ := tv
  refine (dry_any (exB []) dv wv w hT (o1.sl fun _ => rfl) (o2.sl fun _ => rfl)).mono fun e w' h => ⟨h.1.trans ?_, h.2⟩
  kernel_rfl
theorem exWet (w : World) (v : Value) (base : Nat) (hT : Tab w) (tv : TwinV (exB []) base v w) : Calls Tryz.prog 16 #[v, .int .i64 1] w fun e w' => e = .returned (.tuple #[.agg #[.int .i64 62, .int .i64 90], .int .i64 0]) ∧ Ext w w' := by
  obtain ⟨dv, wv, rfl, o1, o2⟩ := tv
  refine (wet_any (exB []) 1 dv wv w hT (o1.sl fun _ => rfl) (o2.sl fun _ => rfl) (by decide)).mono fun e w' h => ⟨h.1.trans ?_, h.2⟩
  kernel_rfl
theorem exKnown (w : World) (v : Value) (base : Nat) (hT : Tab w) (tv : TwinV (exB []) base v w) : Calls Tryz.prog 26 #[v, .int .i64 1, .int .i64 61] w fun e w' => e = .returned (.tuple #[.int .u8 2, .int .i64 0]) ∧ Ext w w' := by
  obtain ⟨dv, wv, rfl, o1, o2⟩ := tv
  refine (known_any (exB []) 1 61 dv wv w hT (o1.sl fun _ => rfl) (o2.sl fun _ => rfl) (by decide)).mono fun e w' h => ⟨h.1.trans ?_, h.2⟩
  kernel_rfl
theorem exPays (w : World) (v : Value) (base : Nat) (hT : Tab w) (tv : TwinV (exB []) base v w) : Calls Tryz.prog 27 #[v, .int .i64 85] w fun e w' => e = .returned (.tuple #[.agg #[.int .i64 478, .int .i64 490], .int .i64 0]) ∧ Ext w w' := by
  obtain ⟨dv, wv, rfl, o1, o2⟩ := tv
  refine (pays_any (exB []) 85 dv wv w hT (o1.sl fun _ => rfl) (o2.sl fun _ => rfl)).mono fun e w' h => ⟨h.1.trans ?_, h.2⟩
  kernel_rfl
theorem exAside (w : World) (v : Value) (base : Nat) (hT : Tab w) (tv : TwinV (exB []) base v w) : Calls Tryz.prog 17 #[v, .int .i64 90] w fun e w' => e = .returned (.tuple #[.int .u8 1, .int .i64 0]) ∧ Ext w w' := by
  obtain ⟨dv, wv, rfl, o1, o2⟩ := tv
  refine (aside_any (exB []) 90 dv wv w hT (o1.sl fun _ => rfl) (o2.sl fun _ => rfl)).mono fun e w' h => ⟨h.1.trans ?_, h.2⟩
  kernel_rfl
theorem odCan (w : World) (v : Value) (base : Nat) (hT : Tab w) (tv : TwinV (exB [odD]) base v w) : Calls Tryz.prog 11 #[v] w fun e w' => e = .returned (.tuple #[.bool false, .int .i64 0]) ∧ Ext w w' := by
  obtain ⟨dv, wv, rfl, o1, o2⟩ := tv
  refine (can_any (exB [odD]) dv wv w hT (o1.sl fun _ => rfl) (o2.sl fun _ => rfl)).mono fun e w' h => ⟨h.1.trans ?_, h.2⟩
  kernel_rfl
theorem exDecide (w : World) (v : Value) (base : Nat) (hT : Tab w) (tv : TwinV (exB []) base v w) : Calls Tryz.prog 23 #[v] w fun e w' => (∃ u, e = .returned (.tuple #[u, .int .i64 0]) ∧ SlI w' u [1, 2, 3]) ∧ Ext w w' := by
  obtain ⟨dv, wv, rfl, o1, o2⟩ := tv
  refine (decide_any (exB []) dv wv w hT (o1.sl fun _ => rfl) (o2.sl fun _ => rfl)).mono ?_
  rintro e w' ⟨u, rfl, h, hE⟩
  have h0 : askE (exB []) true 0 = 0 := ex_ask true 0
  refine ⟨⟨u, by rw [h0], ?_⟩, hE⟩
  unfold decB at h
  rw [if_pos h0, ex_dec] at h
  exact h
theorem odWrong (w : World) (v : Value) (base : Nat) (hT : Tab w) (tv : TwinV (exB [odD]) base v w) : Calls Tryz.prog 29 #[v] w fun e w' => (∃ u u', e = .returned (.tuple #[u, u', .int .i64 0]) ∧ SlI w' u [1] ∧ SlI w' u' []) ∧ Ext w w' := by
  obtain ⟨dv, wv, rfl, o1, o2⟩ := tv
  refine (wrong_any (exB [odD]) dv wv w hT (o1.sl fun _ => rfl) (o2.sl fun _ => rfl)).mono ?_
  rintro e w' ⟨u, u', rfl, h, h', hE⟩
  rw [od_wrongL] at h
  rw [od_wrongK] at h'
  exact ⟨⟨u, u', by rw [od_wrongE], h, h'⟩, hE⟩

set_option maxHeartbeats 4000000 in
theorem alive_any (w : World) (hT : Tab w) : Calls Tryz.prog 4 #[] w fun e w' => e = .returned (.bool true) ∧ Ext w w' := by
  have HT := Lib.hid hT
  have E := Lib.hid (Ext.refl w)
  clear hT
  go_enter Tryz.func4, Tryz.ntmps4
  go_wp2_with fail
  refine (bale0_any _).mono ?_
  rintro e w1 ⟨⟨v, rfl, tv⟩, hE⟩
  replace E := Lib.hid (E.out.trans hE)
  clear hE
  have TV := Lib.hid tv; clear tv
  go_wp2_with fail
  refine (exLayer _ _ _ (HT.out.ext E.out) TV.out).mono ?_
  rintro e w2 ⟨rfl, hE⟩
  replace E := Lib.hid (E.out.trans hE)
  clear TV
  clear hE
  go_wp2_with fail
  have A1 := Lib.hid (Blk.new w2 23 #[.int .i64 3, .int .i64 6])
  have ZA1 := Lib.hid (show w.heap.size ≤ w2.heap.size from E.out.size)
  replace E := Lib.hid (E.out.alloc (.cells #[.int .i64 3, .int .i64 6] 23))
  refine (bale0_any _).mono ?_
  rintro e w3 ⟨⟨v, rfl, tv⟩, hE⟩
  replace E := Lib.hid (E.out.trans hE)
  replace A1 := Lib.hid (A1.out.ext hE)
  clear hE
  have TV := Lib.hid tv; clear tv
  go_wp2_with fail
  refine (exBest _ _ _ (HT.out.ext E.out) TV.out).mono ?_
  rintro e w4 ⟨rfl, hE⟩
  replace E := Lib.hid (E.out.trans hE)
  replace A1 := Lib.hid (A1.out.ext hE)
  clear TV
  clear hE
  go_wp2_with fail
  have A3 := Lib.hid (Blk.new w4 23 #[.int .i64 1, .int .i64 3])
  have ZA3 := Lib.hid (show w.heap.size ≤ w4.heap.size from E.out.size)
  have NA1A3 := Lib.hid (Nat.ne_of_lt A1.out.lt)
  replace A1 := Lib.hid (A1.out.alloc (.cells #[.int .i64 1, .int .i64 3] 23))
  replace E := Lib.hid (E.out.alloc (.cells #[.int .i64 1, .int .i64 3] 23))
  refine (bale0_any _).mono ?_
  rintro e w5 ⟨⟨v, rfl, tv⟩, hE⟩
  replace E := Lib.hid (E.out.trans hE)
  replace A1 := Lib.hid (A1.out.ext hE)
  replace A3 := Lib.hid (A3.out.ext hE)
  clear hE
  have TV := Lib.hid tv; clear tv
  go_wp2_with fail
  refine (exWorst _ _ _ (HT.out.ext E.out) TV.out).mono ?_
  rintro e w6 ⟨rfl, hE⟩
  replace E := Lib.hid (E.out.trans hE)
  replace A1 := Lib.hid (A1.out.ext hE)
  replace A3 := Lib.hid (A3.out.ext hE)
  clear TV
  clear hE
  go_wp2_with fail
  have A5 := Lib.hid (Blk.new w6 23 #[.int .i64 3, .int .i64 9])
  have ZA5 := Lib.hid (show w.heap.size ≤ w6.heap.size from E.out.size)
  have NA1A5 := Lib.hid (Nat.ne_of_lt A1.out.lt)
  replace A1 := Lib.hid (A1.out.alloc (.cells #[.int .i64 3, .int .i64 9] 23))
  have NA3A5 := Lib.hid (Nat.ne_of_lt A3.out.lt)
  replace A3 := Lib.hid (A3.out.alloc (.cells #[.int .i64 3, .int .i64 9] 23))
  replace E := Lib.hid (E.out.alloc (.cells #[.int .i64 3, .int .i64 9] 23))
  refine (bale0_any _).mono ?_
  rintro e w7 ⟨⟨v, rfl, tv⟩, hE⟩
  replace E := Lib.hid (E.out.trans hE)
  replace A1 := Lib.hid (A1.out.ext hE)
  replace A3 := Lib.hid (A3.out.ext hE)
  replace A5 := Lib.hid (A5.out.ext hE)
  clear hE
  have TV := Lib.hid tv; clear tv
  go_wp2_with fail
  refine (exKind _ _ _ (HT.out.ext E.out) TV.out).mono ?_
  rintro e w8 ⟨rfl, hE⟩
  replace E := Lib.hid (E.out.trans hE)
  replace A1 := Lib.hid (A1.out.ext hE)
  replace A3 := Lib.hid (A3.out.ext hE)
  replace A5 := Lib.hid (A5.out.ext hE)
  clear TV
  clear hE
  go_wp2_with fail
  refine (bale0_any _).mono ?_
  rintro e w9 ⟨⟨v, rfl, tv⟩, hE⟩
  replace E := Lib.hid (E.out.trans hE)
  replace A1 := Lib.hid (A1.out.ext hE)
  replace A3 := Lib.hid (A3.out.ext hE)
  replace A5 := Lib.hid (A5.out.ext hE)
  clear hE
  have TV := Lib.hid tv; clear tv
  go_wp2_with fail
  refine (exCut _ _ _ (HT.out.ext E.out) TV.out).mono ?_
  rintro e w10 ⟨rfl, hE⟩
  replace E := Lib.hid (E.out.trans hE)
  replace A1 := Lib.hid (A1.out.ext hE)
  replace A3 := Lib.hid (A3.out.ext hE)
  replace A5 := Lib.hid (A5.out.ext hE)
  clear TV
  clear hE
  go_wp2_with fail
  have A9 := Lib.hid (Blk.new w10 23 #[.int .i64 1, .int .i64 3])
  have ZA9 := Lib.hid (show w.heap.size ≤ w10.heap.size from E.out.size)
  have NA1A9 := Lib.hid (Nat.ne_of_lt A1.out.lt)
  replace A1 := Lib.hid (A1.out.alloc (.cells #[.int .i64 1, .int .i64 3] 23))
  have NA3A9 := Lib.hid (Nat.ne_of_lt A3.out.lt)
  replace A3 := Lib.hid (A3.out.alloc (.cells #[.int .i64 1, .int .i64 3] 23))
  have NA5A9 := Lib.hid (Nat.ne_of_lt A5.out.lt)
  replace A5 := Lib.hid (A5.out.alloc (.cells #[.int .i64 1, .int .i64 3] 23))
  replace E := Lib.hid (E.out.alloc (.cells #[.int .i64 1, .int .i64 3] 23))
  refine (bale0_any _).mono ?_
  rintro e w11 ⟨⟨v, rfl, tv⟩, hE⟩
  replace E := Lib.hid (E.out.trans hE)
  replace A1 := Lib.hid (A1.out.ext hE)
  replace A3 := Lib.hid (A3.out.ext hE)
  replace A5 := Lib.hid (A5.out.ext hE)
  replace A9 := Lib.hid (A9.out.ext hE)
  clear hE
  have TV := Lib.hid tv; clear tv
  go_wp2_with fail
  refine (exAsk _ _ _ (HT.out.ext E.out) TV.out).mono ?_
  rintro e w12 ⟨rfl, hE⟩
  replace E := Lib.hid (E.out.trans hE)
  replace A1 := Lib.hid (A1.out.ext hE)
  replace A3 := Lib.hid (A3.out.ext hE)
  replace A5 := Lib.hid (A5.out.ext hE)
  replace A9 := Lib.hid (A9.out.ext hE)
  clear TV
  clear hE
  go_wp2_with fail
  refine (bale0_any _).mono ?_
  rintro e w13 ⟨⟨v, rfl, tv⟩, hE⟩
  replace E := Lib.hid (E.out.trans hE)
  replace A1 := Lib.hid (A1.out.ext hE)
  replace A3 := Lib.hid (A3.out.ext hE)
  replace A5 := Lib.hid (A5.out.ext hE)
  replace A9 := Lib.hid (A9.out.ext hE)
  clear hE
  have TV := Lib.hid tv; clear tv
  go_wp2_with fail
  refine (exDecide _ _ _ (HT.out.ext E.out) TV.out).mono ?_
  rintro e w14 ⟨⟨u14, rfl, hu⟩, hE⟩
  replace E := Lib.hid (E.out.trans hE)
  replace A1 := Lib.hid (A1.out.ext hE)
  replace A3 := Lib.hid (A3.out.ext hE)
  replace A5 := Lib.hid (A5.out.ext hE)
  replace A9 := Lib.hid (A9.out.ext hE)
  clear TV
  clear hE
  have HU := Lib.hid hu; clear hu
  have nq := neq23
  go_wp2
  have A1a := fun W (h : Ext w14 W) => (show W.cell? ⟨w2.heap.size, 0, none⟩ = some (.int .i64 3) from (A1.out.ext h).cell 0)
  have A1b := fun W (h : Ext w14 W) => (show W.cell? ⟨w2.heap.size, 1, none⟩ = some (.int .i64 6) from (A1.out.ext h).cell 1)
  have A3a := fun W (h : Ext w14 W) => (show W.cell? ⟨w4.heap.size, 0, none⟩ = some (.int .i64 1) from (A3.out.ext h).cell 0)
  have A3b := fun W (h : Ext w14 W) => (show W.cell? ⟨w4.heap.size, 1, none⟩ = some (.int .i64 3) from (A3.out.ext h).cell 1)
  have A5a := fun W (h : Ext w14 W) => (show W.cell? ⟨w6.heap.size, 0, none⟩ = some (.int .i64 3) from (A5.out.ext h).cell 0)
  have A5b := fun W (h : Ext w14 W) => (show W.cell? ⟨w6.heap.size, 1, none⟩ = some (.int .i64 9) from (A5.out.ext h).cell 1)
  have A9a := fun W (h : Ext w14 W) => (show W.cell? ⟨w10.heap.size, 0, none⟩ = some (.int .i64 1) from (A9.out.ext h).cell 0)
  have A9b := fun W (h : Ext w14 W) => (show W.cell? ⟨w10.heap.size, 1, none⟩ = some (.int .i64 3) from (A9.out.ext h).cell 1)
  refine wp_region_tame (fun W => Ext w14 W) (fun W W' => Ext W W') (by kernel_rfl) 219 rfl (by decide +kernel) (Ext.refl _).drew ?_
  repeat (apply tame_q rfl; (intro ρ W hC hr hD; (obtain ⟨hrc, hrg, hrf, hrs⟩ := hr); (simp [go_sem] at hD); go_simp; first | exact ⟨⟨hC, Ext.refl _⟩, rfl⟩ | exact ⟨⟨hC, RS.refl _⟩, rfl⟩ | exact rfl); simp only [List.nil_append, List.cons_append])
  apply tame_q rfl
  · intro ρ W hC hr hD
    obtain ⟨hrc, hrg, hrf, hrs⟩ := hr
    simp [go_sem] at hD
    go_simp
    refine (span_any 3 6 _).mono ?_
    rintro e w' ⟨rfl, hE⟩
    exact ⟨_, rfl, ⟨hC.trans hE, hE⟩, rfl⟩
  simp only [List.nil_append, List.cons_append]
  repeat (apply tame_q rfl; (intro ρ W hC hr hD; (obtain ⟨hrc, hrg, hrf, hrs⟩ := hr); (simp [go_sem] at hD); go_simp; first | exact ⟨⟨hC, Ext.refl _⟩, rfl⟩ | exact ⟨⟨hC, RS.refl _⟩, rfl⟩ | exact rfl); simp only [List.nil_append, List.cons_append])
  apply tame_q rfl
  · intro ρ W hC hr hD
    obtain ⟨hrc, hrg, hrf, hrs⟩ := hr
    simp [go_sem] at hD
    go_simp
    refine (span_any 1 3 _).mono ?_
    rintro e w' ⟨rfl, hE⟩
    exact ⟨_, rfl, ⟨hC.trans hE, hE⟩, rfl⟩
  simp only [List.nil_append, List.cons_append]
  repeat (apply tame_q rfl; (intro ρ W hC hr hD; (obtain ⟨hrc, hrg, hrf, hrs⟩ := hr); (simp [go_sem] at hD); go_simp; first | exact ⟨⟨hC, Ext.refl _⟩, rfl⟩ | exact ⟨⟨hC, RS.refl _⟩, rfl⟩ | exact rfl); simp only [List.nil_append, List.cons_append])
  apply tame_q rfl
  · intro ρ W hC hr hD
    obtain ⟨hrc, hrg, hrf, hrs⟩ := hr
    simp [go_sem] at hD
    go_simp
    refine (span_any 3 9 _).mono ?_
    rintro e w' ⟨rfl, hE⟩
    exact ⟨_, rfl, ⟨hC.trans hE, hE⟩, rfl⟩
  simp only [List.nil_append, List.cons_append]
  repeat (apply tame_q rfl; (intro ρ W hC hr hD; (obtain ⟨hrc, hrg, hrf, hrs⟩ := hr); (simp [go_sem] at hD); go_simp; first | exact ⟨⟨hC, Ext.refl _⟩, rfl⟩ | exact ⟨⟨hC, RS.refl _⟩, rfl⟩ | exact rfl); simp only [List.nil_append, List.cons_append])
  apply tame_q rfl
  · intro ρ W hC hr hD
    obtain ⟨hrc, hrg, hrf, hrs⟩ := hr
    simp [go_sem] at hD
    go_simp
    refine (span_any 1 3 _).mono ?_
    rintro e w' ⟨rfl, hE⟩
    exact ⟨_, rfl, ⟨hC.trans hE, hE⟩, rfl⟩
  simp only [List.nil_append, List.cons_append]
  repeat (apply tame_q rfl; (intro ρ W hC hr hD; (obtain ⟨hrc, hrg, hrf, hrs⟩ := hr); (simp [go_sem] at hD); go_simp; first | exact ⟨⟨hC, Ext.refl _⟩, rfl⟩ | exact ⟨⟨hC, RS.refl _⟩, rfl⟩ | exact rfl); simp only [List.nil_append, List.cons_append])
  apply tame_v rfl (fun v W => SlI W v [1, 2, 3]) (fun v W W' _ hE h => h.ext hE)
  · intro ρ W hC hr hD
    obtain ⟨hrc, hrg, hrf, hrs⟩ := hr
    simp [go_sem] at hD
    go_simp
    exact ⟨⟨hC.alloc _, Ext.al _ _⟩, Own.sl (enc := encI) (sz := 1) (fun _ => rfl) (Own.lit (enc := encI) (sz := 1) (e := 3) (base := W.heap.size) (l := ([1, 2, 3] : List Int)) (fun _ => rfl) (Blk.new W 3 #[.int .i64 1, .int .i64 2, .int .i64 3]) (by simp) (Nat.le_refl _) (by decide))⟩
  simp only [List.nil_append, List.cons_append]
  apply tame_q rfl
  · intro ρ W hC hr hD
    obtain ⟨hrc, hrg, hrf, hrs⟩ := hr
    simp [go_sem] at hD
    have hL : SlI W _ [1, 2, 3] := hD.2.1
    go_simp
    refine (ints_any [1, 2, 3] _ _ _ (HU.out.ext hC) hL).mono ?_
    rintro e w' ⟨rfl, hE⟩
    exact ⟨_, rfl, ⟨hC.trans hE, hE⟩, rfl⟩
  simp only [List.nil_append, List.cons_append]
  repeat (apply tame_q rfl; (intro ρ W hC hr hD; (obtain ⟨hrc, hrg, hrf, hrs⟩ := hr); (simp [go_sem] at hD); go_simp; first | exact ⟨⟨hC, Ext.refl _⟩, rfl⟩ | exact ⟨⟨hC, RS.refl _⟩, rfl⟩ | exact rfl); simp only [List.nil_append, List.cons_append])
  refine tame_end 219 rfl rfl (fun ρ W hC hr hF => ?_)
  obtain ⟨hrc, hrg, hrf, hrs⟩ := hr
  simp [go_sem] at hF
  apply frame_to
  · simp (maxSteps := 4000000) [go_sem, hF, hrs]
    exact rfl
  clear hF hrs hrc hrg hrf
  clear A1a A1b
  clear A3a A3b
  clear A5a A5b
  clear A9a A9b
  replace E := Lib.hid (E.out.trans hC)
  replace A1 := Lib.hid (A1.out.ext hC)
  replace A3 := Lib.hid (A3.out.ext hC)
  replace A5 := Lib.hid (A5.out.ext hC)
  replace A9 := Lib.hid (A9.out.ext hC)
  clear hC
  clear HU
  go_wp2_with fail
  refine (bale0_any _).mono ?_
  rintro e w16 ⟨⟨v, rfl, tv⟩, hE⟩
  replace E := Lib.hid (E.out.trans hE)
  replace A1 := Lib.hid (A1.out.ext hE)
  replace A3 := Lib.hid (A3.out.ext hE)
  replace A5 := Lib.hid (A5.out.ext hE)
  replace A9 := Lib.hid (A9.out.ext hE)
  clear hE
  have TV := Lib.hid tv; clear tv
  go_wp2_with fail
  refine (exDry _ _ _ (HT.out.ext E.out) TV.out).mono ?_
  rintro e w17 ⟨rfl, hE⟩
  replace E := Lib.hid (E.out.trans hE)
  replace A1 := Lib.hid (A1.out.ext hE)
  replace A3 := Lib.hid (A3.out.ext hE)
  replace A5 := Lib.hid (A5.out.ext hE)
  replace A9 := Lib.hid (A9.out.ext hE)
  clear TV
  clear hE
  have af := A1.out.frozen
  have al := A1.out.lt
  have a0 := A1.out.cell 0
  have a1 := A1.out.cell 1
  simp at a0 a1
  go_wp2_with fail
  clear af al a0 a1
  replace E := Lib.hid (show Ext w ((w17.setCell ⟨w2.heap.size, 0, none⟩ (.int .i64 441)).setCell ⟨w2.heap.size, 1, none⟩ (.int .i64 452)) from (E.out.setCell (by have := ZA1.out; dsimp only; omega) _).setCell (by have := ZA1.out; dsimp only; omega) _)
  replace A1 := Lib.hid (show Blk ((w17.setCell ⟨w2.heap.size, 0, none⟩ (.int .i64 441)).setCell ⟨w2.heap.size, 1, none⟩ (.int .i64 452)) w2.heap.size 23 #[.int .i64 441, .int .i64 452] from (A1.out.set_ 0 _).set_ 1 _)
  replace A3 := Lib.hid (show Blk ((w17.setCell ⟨w2.heap.size, 0, none⟩ (.int .i64 441)).setCell ⟨w2.heap.size, 1, none⟩ (.int .i64 452)) w4.heap.size 23 _ from (A3.out.far NA1A3.out.symm _).far NA1A3.out.symm _)
  replace A5 := Lib.hid (show Blk ((w17.setCell ⟨w2.heap.size, 0, none⟩ (.int .i64 441)).setCell ⟨w2.heap.size, 1, none⟩ (.int .i64 452)) w6.heap.size 23 _ from (A5.out.far NA1A5.out.symm _).far NA1A5.out.symm _)
  replace A9 := Lib.hid (show Blk ((w17.setCell ⟨w2.heap.size, 0, none⟩ (.int .i64 441)).setCell ⟨w2.heap.size, 1, none⟩ (.int .i64 452)) w10.heap.size 23 _ from (A9.out.far NA1A9.out.symm _).far NA1A9.out.symm _)
  refine (bale0_any _).mono ?_
  rintro e w18 ⟨⟨v, rfl, tv⟩, hE⟩
  replace E := Lib.hid (E.out.trans hE)
  replace A1 := Lib.hid (A1.out.ext hE)
  replace A3 := Lib.hid (A3.out.ext hE)
  replace A5 := Lib.hid (A5.out.ext hE)
  replace A9 := Lib.hid (A9.out.ext hE)
  clear hE
  have TV := Lib.hid tv; clear tv
  go_wp2_with fail
  refine (exWet _ _ _ (HT.out.ext E.out) TV.out).mono ?_
  rintro e w19 ⟨rfl, hE⟩
  replace E := Lib.hid (E.out.trans hE)
  replace A1 := Lib.hid (A1.out.ext hE)
  replace A3 := Lib.hid (A3.out.ext hE)
  replace A5 := Lib.hid (A5.out.ext hE)
  replace A9 := Lib.hid (A9.out.ext hE)
  clear TV
  clear hE
  have af := A3.out.frozen
  have al := A3.out.lt
  have a0 := A3.out.cell 0
  have a1 := A3.out.cell 1
  simp at a0 a1
  go_wp2_with fail
  clear af al a0 a1
  replace E := Lib.hid (show Ext w ((w19.setCell ⟨w4.heap.size, 0, none⟩ (.int .i64 62)).setCell ⟨w4.heap.size, 1, none⟩ (.int .i64 90)) from (E.out.setCell (by have := ZA3.out; dsimp only; omega) _).setCell (by have := ZA3.out; dsimp only; omega) _)
  replace A1 := Lib.hid (show Blk ((w19.setCell ⟨w4.heap.size, 0, none⟩ (.int .i64 62)).setCell ⟨w4.heap.size, 1, none⟩ (.int .i64 90)) w2.heap.size 23 _ from (A1.out.far NA1A3.out _).far NA1A3.out _)
  replace A3 := Lib.hid (show Blk ((w19.setCell ⟨w4.heap.size, 0, none⟩ (.int .i64 62)).setCell ⟨w4.heap.size, 1, none⟩ (.int .i64 90)) w4.heap.size 23 #[.int .i64 62, .int .i64 90] from (A3.out.set_ 0 _).set_ 1 _)
  replace A5 := Lib.hid (show Blk ((w19.setCell ⟨w4.heap.size, 0, none⟩ (.int .i64 62)).setCell ⟨w4.heap.size, 1, none⟩ (.int .i64 90)) w6.heap.size 23 _ from (A5.out.far NA3A5.out.symm _).far NA3A5.out.symm _)
  replace A9 := Lib.hid (show Blk ((w19.setCell ⟨w4.heap.size, 0, none⟩ (.int .i64 62)).setCell ⟨w4.heap.size, 1, none⟩ (.int .i64 90)) w10.heap.size 23 _ from (A9.out.far NA3A9.out.symm _).far NA3A9.out.symm _)
  refine (bale0_any _).mono ?_
  rintro e w20 ⟨⟨v, rfl, tv⟩, hE⟩
  replace E := Lib.hid (E.out.trans hE)
  replace A1 := Lib.hid (A1.out.ext hE)
  replace A3 := Lib.hid (A3.out.ext hE)
  replace A5 := Lib.hid (A5.out.ext hE)
  replace A9 := Lib.hid (A9.out.ext hE)
  clear hE
  have TV := Lib.hid tv; clear tv
  go_wp2_with fail
  refine (exKnown _ _ _ (HT.out.ext E.out) TV.out).mono ?_
  rintro e w21 ⟨rfl, hE⟩
  replace E := Lib.hid (E.out.trans hE)
  replace A1 := Lib.hid (A1.out.ext hE)
  replace A3 := Lib.hid (A3.out.ext hE)
  replace A5 := Lib.hid (A5.out.ext hE)
  replace A9 := Lib.hid (A9.out.ext hE)
  clear TV
  clear hE
  go_wp2_with fail
  refine (bale0_any _).mono ?_
  rintro e w22 ⟨⟨v, rfl, tv⟩, hE⟩
  replace E := Lib.hid (E.out.trans hE)
  replace A1 := Lib.hid (A1.out.ext hE)
  replace A3 := Lib.hid (A3.out.ext hE)
  replace A5 := Lib.hid (A5.out.ext hE)
  replace A9 := Lib.hid (A9.out.ext hE)
  clear hE
  have TV := Lib.hid tv; clear tv
  go_wp2_with fail
  refine (exPays _ _ _ (HT.out.ext E.out) TV.out).mono ?_
  rintro e w23 ⟨rfl, hE⟩
  replace E := Lib.hid (E.out.trans hE)
  replace A1 := Lib.hid (A1.out.ext hE)
  replace A3 := Lib.hid (A3.out.ext hE)
  replace A5 := Lib.hid (A5.out.ext hE)
  replace A9 := Lib.hid (A9.out.ext hE)
  clear TV
  clear hE
  have af := A5.out.frozen
  have al := A5.out.lt
  have a0 := A5.out.cell 0
  have a1 := A5.out.cell 1
  simp at a0 a1
  go_wp2_with fail
  clear af al a0 a1
  replace E := Lib.hid (show Ext w ((w23.setCell ⟨w6.heap.size, 0, none⟩ (.int .i64 478)).setCell ⟨w6.heap.size, 1, none⟩ (.int .i64 490)) from (E.out.setCell (by have := ZA5.out; dsimp only; omega) _).setCell (by have := ZA5.out; dsimp only; omega) _)
  replace A1 := Lib.hid (show Blk ((w23.setCell ⟨w6.heap.size, 0, none⟩ (.int .i64 478)).setCell ⟨w6.heap.size, 1, none⟩ (.int .i64 490)) w2.heap.size 23 _ from (A1.out.far NA1A5.out _).far NA1A5.out _)
  replace A3 := Lib.hid (show Blk ((w23.setCell ⟨w6.heap.size, 0, none⟩ (.int .i64 478)).setCell ⟨w6.heap.size, 1, none⟩ (.int .i64 490)) w4.heap.size 23 _ from (A3.out.far NA3A5.out _).far NA3A5.out _)
  replace A5 := Lib.hid (show Blk ((w23.setCell ⟨w6.heap.size, 0, none⟩ (.int .i64 478)).setCell ⟨w6.heap.size, 1, none⟩ (.int .i64 490)) w6.heap.size 23 #[.int .i64 478, .int .i64 490] from (A5.out.set_ 0 _).set_ 1 _)
  replace A9 := Lib.hid (show Blk ((w23.setCell ⟨w6.heap.size, 0, none⟩ (.int .i64 478)).setCell ⟨w6.heap.size, 1, none⟩ (.int .i64 490)) w10.heap.size 23 _ from (A9.out.far NA5A9.out.symm _).far NA5A9.out.symm _)
  refine (bale0_any _).mono ?_
  rintro e w24 ⟨⟨v, rfl, tv⟩, hE⟩
  replace E := Lib.hid (E.out.trans hE)
  replace A1 := Lib.hid (A1.out.ext hE)
  replace A3 := Lib.hid (A3.out.ext hE)
  replace A5 := Lib.hid (A5.out.ext hE)
  replace A9 := Lib.hid (A9.out.ext hE)
  clear hE
  have TV := Lib.hid tv; clear tv
  go_wp2_with fail
  refine (exAside _ _ _ (HT.out.ext E.out) TV.out).mono ?_
  rintro e w25 ⟨rfl, hE⟩
  replace E := Lib.hid (E.out.trans hE)
  replace A1 := Lib.hid (A1.out.ext hE)
  replace A3 := Lib.hid (A3.out.ext hE)
  replace A5 := Lib.hid (A5.out.ext hE)
  replace A9 := Lib.hid (A9.out.ext hE)
  clear TV
  clear hE
  go_wp2_with fail
  refine (odd_any _).mono ?_
  rintro e w26 ⟨⟨v, rfl, tv⟩, hE⟩
  replace E := Lib.hid (E.out.trans hE)
  replace A1 := Lib.hid (A1.out.ext hE)
  replace A3 := Lib.hid (A3.out.ext hE)
  replace A5 := Lib.hid (A5.out.ext hE)
  replace A9 := Lib.hid (A9.out.ext hE)
  clear hE
  have TV := Lib.hid tv; clear tv
  go_wp2_with fail
  refine (odCan _ _ _ (HT.out.ext E.out) TV.out).mono ?_
  rintro e w27 ⟨rfl, hE⟩
  replace E := Lib.hid (E.out.trans hE)
  replace A1 := Lib.hid (A1.out.ext hE)
  replace A3 := Lib.hid (A3.out.ext hE)
  replace A5 := Lib.hid (A5.out.ext hE)
  replace A9 := Lib.hid (A9.out.ext hE)
  clear TV
  clear hE
  go_wp2_with fail
  refine (odd_any _).mono ?_
  rintro e w28 ⟨⟨v, rfl, tv⟩, hE⟩
  replace E := Lib.hid (E.out.trans hE)
  replace A1 := Lib.hid (A1.out.ext hE)
  replace A3 := Lib.hid (A3.out.ext hE)
  replace A5 := Lib.hid (A5.out.ext hE)
  replace A9 := Lib.hid (A9.out.ext hE)
  clear hE
  have TV := Lib.hid tv; clear tv
  go_wp2_with fail
  refine (odWrong _ _ _ (HT.out.ext E.out) TV.out).mono ?_
  rintro e w29 ⟨⟨u18, u19, rfl, hu, hu2⟩, hE⟩
  replace E := Lib.hid (E.out.trans hE)
  replace A1 := Lib.hid (A1.out.ext hE)
  replace A3 := Lib.hid (A3.out.ext hE)
  replace A5 := Lib.hid (A5.out.ext hE)
  replace A9 := Lib.hid (A9.out.ext hE)
  clear TV
  clear hE
  have HU := Lib.hid hu; have HU2 := Lib.hid hu2; clear hu hu2
  have eq23 := eql23s
  go_wp2
  have A1a := fun W (h : Ext w29 W) => (show W.cell? ⟨w2.heap.size, 0, none⟩ = some (.int .i64 441) from (A1.out.ext h).cell 0)
  have A1b := fun W (h : Ext w29 W) => (show W.cell? ⟨w2.heap.size, 1, none⟩ = some (.int .i64 452) from (A1.out.ext h).cell 1)
  have A3a := fun W (h : Ext w29 W) => (show W.cell? ⟨w4.heap.size, 0, none⟩ = some (.int .i64 62) from (A3.out.ext h).cell 0)
  have A3b := fun W (h : Ext w29 W) => (show W.cell? ⟨w4.heap.size, 1, none⟩ = some (.int .i64 90) from (A3.out.ext h).cell 1)
  have A5a := fun W (h : Ext w29 W) => (show W.cell? ⟨w6.heap.size, 0, none⟩ = some (.int .i64 478) from (A5.out.ext h).cell 0)
  have A5b := fun W (h : Ext w29 W) => (show W.cell? ⟨w6.heap.size, 1, none⟩ = some (.int .i64 490) from (A5.out.ext h).cell 1)
  have A9a := fun W (h : Ext w29 W) => (show W.cell? ⟨w10.heap.size, 0, none⟩ = some (.int .i64 1) from (A9.out.ext h).cell 0)
  have A9b := fun W (h : Ext w29 W) => (show W.cell? ⟨w10.heap.size, 1, none⟩ = some (.int .i64 3) from (A9.out.ext h).cell 1)
  refine wp_region_tame (fun W => Ext w29 W) (fun W W' => Ext W W') (by kernel_rfl) 219 rfl (by decide +kernel) (Ext.refl _).drew ?_
  repeat (apply tame_q rfl; (intro ρ W hC hr hD; (obtain ⟨hrc, hrg, hrf, hrs⟩ := hr); (simp [go_sem] at hD); go_simp; first | exact ⟨⟨hC, Ext.refl _⟩, rfl⟩ | exact ⟨⟨hC, RS.refl _⟩, rfl⟩ | exact rfl); simp only [List.nil_append, List.cons_append])
  apply tame_q rfl
  · intro ρ W hC hr hD
    obtain ⟨hrc, hrg, hrf, hrs⟩ := hr
    simp [go_sem] at hD
    go_simp
    refine (span_any 441 452 _).mono ?_
    rintro e w' ⟨rfl, hE⟩
    exact ⟨_, rfl, ⟨hC.trans hE, hE⟩, rfl⟩
  simp only [List.nil_append, List.cons_append]
  repeat (apply tame_q rfl; (intro ρ W hC hr hD; (obtain ⟨hrc, hrg, hrf, hrs⟩ := hr); (simp [go_sem] at hD); go_simp; first | exact ⟨⟨hC, Ext.refl _⟩, rfl⟩ | exact ⟨⟨hC, RS.refl _⟩, rfl⟩ | exact rfl); simp only [List.nil_append, List.cons_append])
  apply tame_q rfl
  · intro ρ W hC hr hD
    obtain ⟨hrc, hrg, hrf, hrs⟩ := hr
    simp [go_sem] at hD
    go_simp
    refine (span_any 62 90 _).mono ?_
    rintro e w' ⟨rfl, hE⟩
    exact ⟨_, rfl, ⟨hC.trans hE, hE⟩, rfl⟩
  simp only [List.nil_append, List.cons_append]
  repeat (apply tame_q rfl; (intro ρ W hC hr hD; (obtain ⟨hrc, hrg, hrf, hrs⟩ := hr); (simp [go_sem] at hD); go_simp; first | exact ⟨⟨hC, Ext.refl _⟩, rfl⟩ | exact ⟨⟨hC, RS.refl _⟩, rfl⟩ | exact rfl); simp only [List.nil_append, List.cons_append])
  apply tame_q rfl
  · intro ρ W hC hr hD
    obtain ⟨hrc, hrg, hrf, hrs⟩ := hr
    simp [go_sem] at hD
    go_simp
    refine (span_any 478 490 _).mono ?_
    rintro e w' ⟨rfl, hE⟩
    exact ⟨_, rfl, ⟨hC.trans hE, hE⟩, rfl⟩
  simp only [List.nil_append, List.cons_append]
  repeat (apply tame_q rfl; (intro ρ W hC hr hD; (obtain ⟨hrc, hrg, hrf, hrs⟩ := hr); (simp [go_sem] at hD); go_simp; first | exact ⟨⟨hC, Ext.refl _⟩, rfl⟩ | exact ⟨⟨hC, RS.refl _⟩, rfl⟩ | exact rfl); simp only [List.nil_append, List.cons_append])
  apply tame_v rfl (fun v W => SlI W v [1]) (fun v W W' _ hE h => h.ext hE)
  · intro ρ W hC hr hD
    obtain ⟨hrc, hrg, hrf, hrs⟩ := hr
    simp [go_sem] at hD
    go_simp
    exact ⟨⟨hC.alloc _, Ext.al _ _⟩, Own.sl (enc := encI) (sz := 1) (fun _ => rfl) (Own.lit (enc := encI) (sz := 1) (e := 3) (base := W.heap.size) (l := ([1] : List Int)) (fun _ => rfl) (Blk.new W 3 #[.int .i64 1]) (by simp) (Nat.le_refl _) (by decide))⟩
  simp only [List.nil_append, List.cons_append]
  apply tame_q rfl
  · intro ρ W hC hr hD
    obtain ⟨hrc, hrg, hrf, hrs⟩ := hr
    simp [go_sem] at hD
    have hL : SlI W _ [1] := hD.2.1
    go_simp
    refine (ints_any [1] _ _ _ (HU.out.ext hC) hL).mono ?_
    rintro e w' ⟨rfl, hE⟩
    exact ⟨_, rfl, ⟨hC.trans hE, hE⟩, rfl⟩
  simp only [List.nil_append, List.cons_append]
  repeat (apply tame_q rfl; (intro ρ W hC hr hD; (obtain ⟨hrc, hrg, hrf, hrs⟩ := hr); (simp [go_sem] at hD); go_simp; first | exact ⟨⟨hC, Ext.refl _⟩, rfl⟩ | exact ⟨⟨hC, RS.refl _⟩, rfl⟩ | exact rfl); simp only [List.nil_append, List.cons_append])
  apply tame_q rfl
  · intro ρ W hC hr hD
    obtain ⟨hrc, hrg, hrf, hrs⟩ := hr
    simp [go_sem] at hD
    have hL : SlI W _ [] := Sl.nil W
    go_simp
    refine (ints_any [] _ _ _ (HU2.out.ext hC) hL).mono ?_
    rintro e w' ⟨rfl, hE⟩
    exact ⟨_, rfl, ⟨hC.trans hE, hE⟩, rfl⟩
  simp only [List.nil_append, List.cons_append]
  repeat (apply tame_q rfl; (intro ρ W hC hr hD; (obtain ⟨hrc, hrg, hrf, hrs⟩ := hr); (simp [go_sem] at hD); go_simp; first | exact ⟨⟨hC, Ext.refl _⟩, rfl⟩ | exact ⟨⟨hC, RS.refl _⟩, rfl⟩ | exact rfl); simp only [List.nil_append, List.cons_append])
  refine tame_end 219 rfl rfl (fun ρ W hC hr hF => ?_)
  obtain ⟨hrc, hrg, hrf, hrs⟩ := hr
  simp [go_sem] at hF
  apply frame_to
  · simp (maxSteps := 4000000) [go_sem, hF, hrs]
    exact rfl
  clear hF hrs hrc hrg hrf
  clear A1a A1b
  clear A3a A3b
  clear A5a A5b
  clear A9a A9b
  replace E := Lib.hid (E.out.trans hC)
  replace A1 := Lib.hid (A1.out.ext hC)
  replace A3 := Lib.hid (A3.out.ext hC)
  replace A5 := Lib.hid (A5.out.ext hC)
  replace A9 := Lib.hid (A9.out.ext hC)
  clear hC
  go_wp2
  go_ret
  exact ⟨rfl, E.out⟩
end Go.Proofs.YtfhmfbhpehldpaaGreatDoor
/- middlinglaw03.CoreTruth: the walk. -/
namespace Go.Proofs.YtfhmfbhpehldpaaGreatDoor
open Go.RowKit Go.Shelf Go.Lib
set_option maxRecDepth 100000
set_option linter.unusedSimpArgs false

/-- A law's bale in its box. -/
structure SB (b : Bale) (w : World) (p : Nat) (dv wv : Value) (W : World) : Prop where
  e : Ext w W
  p : Blk W p 27 #[.int .i64 b.id, .int .i64 b.layers, .int .i64 b.dry.lo, .int .i64 b.dry.hi, dv, wv]
  t : Tab W
  d : SlD W dv b.draws
  w : SlW W wv b.weighs
theorem SB.ext {b : Bale} {w : World} {p : Nat} {dv wv : Value} {W W' : World} (h : SB b w p dv wv W) (e : Ext W W') : SB b w p dv wv W' := ⟨h.e.trans e, h.p.ext e, h.t.ext e, h.d.ext e, h.w.ext e⟩
theorem SB.cells {b : Bale} {w : World} {p : Nat} {dv wv : Value} {W : World} (h : SB b w p dv wv W) :
    W.cell? ⟨p, 0, none⟩ = some (.int .i64 b.id) ∧ W.cell? ⟨p, 1, none⟩ = some (.int .i64 b.layers) ∧ W.cell? ⟨p, 2, none⟩ = some (.int .i64 b.dry.lo) ∧ W.cell? ⟨p, 3, none⟩ = some (.int .i64 b.dry.hi) ∧ W.cell? ⟨p, 4, none⟩ = some dv ∧ W.cell? ⟨p, 5, none⟩ = some wv ∧ p < W.heap.size :=
  ⟨h.p.cell 0, h.p.cell 1, h.p.cell 2, h.p.cell 3, h.p.cell 4, h.p.cell 5, h.p.lt⟩

theorem three_of {E v : Int} (q1 : E = 0 ∨ E = 6) (q2 : E = 0 ↔ v ≠ 0) (q3 : v = 0 ∨ v = 1 ∨ v = 2) : (E = 0 ∧ v = 1) ∨ (E = 0 ∧ v = 2) ∨ (E = 6 ∧ v = 0) := by omega
end Go.Proofs.YtfhmfbhpehldpaaGreatDoor
/- middlinglaw03.fresh and inner. -/
namespace Go.Proofs.YtfhmfbhpehldpaaGreatDoor
open Go.RowKit Go.Shelf Go.Lib
set_option maxRecDepth 100000
set_option linter.unusedSimpArgs false

theorem fresh_bd : ∀ (l : List Int) (m : Int), m ≤ freshN l m ∧ freshN l m ≤ m + l.length
  | [], m => by unfold freshN; simp
  | x :: l, m => by
    unfold freshN
    rw [List.foldl_cons, List.length_cons]
    split
    · have := fresh_bd l (m + 1); unfold freshN at this; omega
    · have := fresh_bd l m; unfold freshN at this; omega
theorem fresh_snoc {l : List Int} {k : Nat} {x : Int} (h : l[k]? = some x) : freshN (l.take (k + 1)) 1 = if x = freshN (l.take k) 1 then freshN (l.take k) 1 + 1 else freshN (l.take k) 1 := by
  unfold freshN
  rw [List.take_add_one, h, List.foldl_append]
  rfl
set_option maxHeartbeats 2000000 in
theorem fresh_any (b : Bale) (dv wv : Value) (w : World) (hd : SlD w dv b.draws) (hw : SlW w wv b.weighs) (hld : b.draws.length ≤ 1000) (hlw : b.weighs.length ≤ 1000) :
    Calls Tryz.prog 6 #[valB b dv wv] w fun e w' => e = .returned (.tuple #[.int .i64 (freshN (b.draws.map (·.number)) 1), .int .i64 (freshN (b.weighs.map (·.number)) 1)]) ∧ Ext w w' := by
  have HD := Lib.hid hd
  have HW := Lib.hid hw
  obtain ⟨A, n, cp, rfl, hn, hlc, hcm⟩ := hd.form
  obtain ⟨A2, n2, cp2, rfl, hn2, hlc2, hcm2⟩ := hw.form
  have h10 : n ≤ 1000 := by have := hn.out; omega
  have h8 : n2 ≤ 1000 := by have := hn2.out; omega
  clear hd hw hld hlw
  go_enter Tryz.func6, Tryz.ntmps6
  go_wp2
  have E0 := Lib.hid (Ext.al w (.cells #[.int .i64 b.id, .int .i64 b.layers, .int .i64 b.dry.lo, .int .i64 b.dry.hi, .slice A n cp, .slice A2 n2 cp2] 27))
  have B0 := Lib.hid (Blk.new w 27 #[.int .i64 b.id, .int .i64 b.layers, .int .i64 b.dry.lo, .int .i64 b.dry.hi, .slice A n cp, .slice A2 n2 cp2])
  generalize w.alloc (.cells #[.int .i64 b.id, .int .i64 b.layers, .int .i64 b.dry.lo, .int .i64 b.dry.hi, .slice A n cp, .slice A2 n2 cp2] 27) = w1 at E0 B0 ⊢
  go_loopg [4, 13] n (fun gg s4 s13 wr => ∃ i : Nat, i ≤ n ∧ n - i ≤ gg ∧ s13 = .int .i64 (i : Int) ∧ s4 = .int .i64 (freshN ((b.draws.map (·.number)).take i) 1) ∧ Aside (Ext w1 wr))
  case atStart => exact ⟨0, by omega, by omega, rfl, rfl, Ext.refl _⟩
  case round =>
    obtain ⟨i, hi, hg, rfl, rfl, EX⟩ := hrel
    by_cases hin : i < n
    · have hiz : (i : Int) < (n : Int) := by omega
      obtain ⟨bb, off, x, rfl, hx, hb, hcell⟩ := HD.out.at_ hin
      obtain ⟨c0, c1, c2, c3⟩ := SlD.cells hcell (E0.out.trans EX.out)
      have HS := Lib.hid (fresh_snoc (show (b.draws.map (·.number))[i]? = some x.number by rw [List.getElem?_map, hx]; rfl))
      have hbd := fresh_bd ((b.draws.map (·.number)).take i) 1
      have hlt : ((b.draws.map (·.number)).take i).length ≤ i := by rw [List.length_take]; omega
      generalize freshN ((b.draws.map (·.number)).take i) 1 = f at HS hbd
      have hwf : IntKind.i64.wrap (f + 1) = f + 1 := wrap_small _ (by omega) (by omega)
      obtain ⟨hf1, hf2⟩ := hbd
      clear hx hcell hb
      by_cases he : x.number = f
      · rw [if_pos he] at HS
        have he' : (x.number == f) = true := by simpa using he
        have HE := Lib.hid he
        have HF := Lib.hid hwf
        clear he hf1 hf2 hlt
        go_wp2
        go_roundg (n - (i + 1))
        case measure => omega
        case rel => exact ⟨i + 1, by omega, by omega, by simp, by (first | rw [HS.out] | (rw [HS.out]; congr 1)), EX.out.alloc _⟩
      · rw [if_neg he] at HS
        have he' : (x.number == f) = false := beq_eq_false_iff_ne.2 he
        clear hf1 hf2 hlt
        go_wp2
        go_roundg (n - (i + 1))
        case measure => omega
        case rel => exact ⟨i + 1, by omega, by omega, by simp, by rw [HS.out], EX.out.alloc _⟩
    · obtain rfl : i = n := by omega
      have HT := Lib.hid (show (b.draws.map (·.number)).take i = b.draws.map (·.number) from List.take_of_length_le (by rw [List.length_map]; have := hn.out; omega))
      rw [HT.out]
      have EX1 := Lib.hid EX.out
      have x5 : wr.cell? ⟨w.heap.size, 5, none⟩ = some (.slice A2 n2 cp2) := (B0.out.ext EX.out).cell 5
      have xl : w.heap.size < wr.heap.size := (B0.out.ext EX.out).lt
      clear EX
      obtain ⟨wo, hwo⟩ : ∃ wo : World, wo = wr := ⟨_, rfl⟩
      subst hwo
      obtain ⟨fd, hfd⟩ : ∃ fd, fd = freshN (b.draws.map (·.number)) 1 := ⟨_, rfl⟩
      have HFD := Lib.hid hfd
      rw [← hfd]
      clear hfd
      go_wp2
      clear x5 xl
      go_loopg [5, 27] n2 (fun gg s5 s27 wr => ∃ i : Nat, i ≤ n2 ∧ n2 - i ≤ gg ∧ s27 = .int .i64 (i : Int) ∧ s5 = .int .i64 (freshN ((b.weighs.map (·.number)).take i) 1) ∧ Aside (Ext wo wr))
      case atStart => exact ⟨0, by omega, by omega, rfl, rfl, Ext.refl _⟩
      case round =>
        obtain ⟨i, hi, hg, rfl, rfl, EX⟩ := hrel
        by_cases hin : i < n2
        · have hiz : (i : Int) < (n2 : Int) := by omega
          obtain ⟨bb, off, x, rfl, hx, hb, hcell⟩ := HW.out.at_ hin
          obtain ⟨c0, c1, c2, c3⟩ := SlW.cells hcell ((E0.out.trans EX1.out).trans EX.out)
          have HS := Lib.hid (fresh_snoc (show (b.weighs.map (·.number))[i]? = some x.number by rw [List.getElem?_map, hx]; rfl))
          have hbd := fresh_bd ((b.weighs.map (·.number)).take i) 1
          have hlt : ((b.weighs.map (·.number)).take i).length ≤ i := by rw [List.length_take]; omega
          generalize freshN ((b.weighs.map (·.number)).take i) 1 = f at HS hbd
          have hwf : IntKind.i64.wrap (f + 1) = f + 1 := wrap_small _ (by omega) (by omega)
          obtain ⟨hf1, hf2⟩ := hbd
          clear hx hcell hb
          by_cases he : x.number = f
          · rw [if_pos he] at HS
            have he' : (x.number == f) = true := by simpa using he
            clear he hf1 hf2 hlt
            go_wp2
            go_roundg (n2 - (i + 1))
            case measure => omega
            case rel => exact ⟨i + 1, by omega, by omega, by simp, by rw [HS.out], EX.out.alloc _⟩
          · rw [if_neg he] at HS
            have he' : (x.number == f) = false := beq_eq_false_iff_ne.2 he
            clear hf1 hf2 hlt
            go_wp2
            go_roundg (n2 - (i + 1))
            case measure => omega
            case rel => exact ⟨i + 1, by omega, by omega, by simp, by rw [HS.out], EX.out.alloc _⟩
        · obtain rfl : i = n2 := by omega
          have HT2 := Lib.hid (show (b.weighs.map (·.number)).take i = b.weighs.map (·.number) from List.take_of_length_le (by rw [List.length_map]; have := hn2.out; omega))
          rw [HT2.out]
          go_wp2
          go_ret2
          rw [← HFD.out]
          exact ⟨rfl, (E0.out.trans EX1.out).trans EX.out⟩
theorem inner_any {a b : Span} (h : innerS a b) (w : World) : Calls Tryz.prog 13 #[valS a, valS b] w fun e w' => e = .returned (.bool true) ∧ Ext w w' := by
  obtain ⟨h1, h2, h3⟩ := h
  go_enter Tryz.func13, Tryz.ntmps13
  go_wp2
  go_ret
  exact ⟨rfl, (Ext.al _ _).alloc _⟩
end Go.Proofs.YtfhmfbhpehldpaaGreatDoor
/- middlinglaw03.CoreMore: the walk's last part. -/
namespace Go.Proofs.YtfhmfbhpehldpaaGreatDoor
open Go.RowKit Go.Shelf Go.Lib
set_option maxRecDepth 100000
set_option linter.unusedSimpArgs false

/-- What is left of a text behind n parts. -/
def restM : Nat → Code → Code
  | n + 1, .seq _ y => restM n y
  | _, c => c

set_option maxHeartbeats 16000000 in
theorem moreT_any {s0 s1 s2 s3 s4 s5 s6 s9 s10 s11 s12 s13 s14 s15 s16 s18 s19 s20 s21 s22 s23 s25 s26 s27 s28 s29 s30 s31 s32 s33 s34 s35 s36 s37 s38 s39 s40 s41 s42 s43 s44 s45 s46 s47 s48 s49 s50 s51 s52 s53 s54 s55 s56 s57 s58 s59 s60 s61 s62 s63 s64 s65 s66 s67 s68 s69 s70 s71 s72 s73 s74 s75 s76 s77 s78 s79 s80 s81 s82 s83 s84 s85 s86 s87 s88 s89 s90 s91 s92 s93 s94 s95 s96 s97 s98 s99 s100 s101 s102 s103 s104 s105 s106 s107 s108 s109 s110 s111 s112 s113 s114 s115 s116 s117 s118 s119 s120 s121 s122 s123 s124 s125 s126 s127 s128 s129 s130 s131 s132 s133 s134 s135 s136 s137 s138 s139 s140 s141 s142 s143 s144 s145 s146 s147 s148 s149 s150 s151 s152 s153 s154 s155 s156 s157 s158 s159 s160 s161 s162 s163 s164 s165 s166 s167 s168 s169 s170 s171 s172 s173 s174 s175 s176 s177 s178 s179 s180 s181 s182 s183 s184 s185 s186 s187 s188 s189 s190 s191 s192 s193 s194 s195 s196 s197 s198 s199 s200 s201 s202 s203 s204 s205 s206 s207 s208 s209 s210 s211 s212 s213 s214 s215 s216 s217 s218 s219 s220 s221 s222 s223 s224 s225 s226 s227 s228 s229 s230 s231 s232 s233 s234 s235 s236 s237 s238 s239 s240 s241 s242 s243 s244 s245 s246 s247 s248 s249 s250 s251 s252 s253 s254 s255 s256 s257 s258 s259 s260 s261 s262 s263 s264 s265 s266 s267 s268 s269 s270 s271 s272 s273 s274 s275 s276 s277 s278 s279 s280 s281 s282 s283 s284 : Value} {b y : Bale} {x7 : Int} {q0 q2 : Nat} {w w5 w8 : World} {A A2 A5 A6 : Option Addr} {n n2 n5 n6 cp cp2 c5 c6 : Nat} (hv : valid b = true) (ho : okB b = true) (hvy : valid y = true) (hoy : okB y = true) (hm : MoreOf b y) (hx7 : 0 ≤ x7 ∧ x7 ≤ 255)
    (hS : SB b w q0 (.slice A n cp) (.slice A2 n2 cp2) w8) (hY : SB y w5 q2 (.slice A5 n5 c5) (.slice A6 n6 c6) w8) :
    (restM 11 (Tryz.f3.body.getD .skip)).wp Tryz.prog (bodyPost Tryz.prog Tryz.f3 fun e w' => e = .returned (.bool true) ∧ Ext w w') { tmps := #[s0, s1, s2, s3, s4, s5, s6, .int .u8 x7, .pointer (some ⟨q0, 0, none⟩), s9, s10, s11, s12, s13, s14, s15, s16, .bool true, s18, s19, s20, s21, s22, s23, .pointer (some ⟨q2, 0, none⟩), s25, s26, s27, s28, s29, s30, s31, s32, s33, s34, s35, s36, s37, s38, s39, s40, s41, s42, s43, s44, s45, s46, s47, s48, s49, s50, s51, s52, s53, s54, s55, s56, s57, s58, s59, s60, s61, s62, s63, s64, s65, s66, s67, s68, s69, s70, s71, s72, s73, s74, s75, s76, s77, s78, s79, s80, s81, s82, s83, s84, s85, s86, s87, s88, s89, s90, s91, s92, s93, s94, s95, s96, s97, s98, s99, s100, s101, s102, s103, s104, s105, s106, s107, s108, s109, s110, s111, s112, s113, s114, s115, s116, s117, s118, s119, s120, s121, s122, s123, s124, s125, s126, s127, s128, s129, s130, s131, s132, s133, s134, s135, s136, s137, s138, s139, s140, s141, s142, s143, s144, s145, s146, s147, s148, s149, s150, s151, s152, s153, s154, s155, s156, s157, s158, s159, s160, s161, s162, s163, s164, s165, s166, s167, s168, s169, s170, s171, s172, s173, s174, s175, s176, s177, s178, s179, s180, s181, s182, s183, s184, s185, s186, s187, s188, s189, s190, s191, s192, s193, s194, s195, s196, s197, s198, s199, s200, s201, s202, s203, s204, s205, s206, s207, s208, s209, s210, s211, s212, s213, s214, s215, s216, s217, s218, s219, s220, s221, s222, s223, s224, s225, s226, s227, s228, s229, s230, s231, s232, s233, s234, s235, s236, s237, s238, s239, s240, s241, s242, s243, s244, s245, s246, s247, s248, s249, s250, s251, s252, s253, s254, s255, s256, s257, s258, s259, s260, s261, s262, s263, s264, s265, s266, s267, s268, s269, s270, s271, s272, s273, s274, s275, s276, s277, s278, s279, s280, s281, s282, s283, s284], defers := [] } w8 := by
  have HV := Lib.hid hv; have HO := Lib.hid ho; have HVY := Lib.hid hvy; have HOY := Lib.hid hoy; have HM := Lib.hid hm
  have HX7 := Lib.hid hx7
  have S := Lib.hid hS
  have Y := Lib.hid hY
  have HBD := Lib.hid (valid_bds hv)
  have hn2 : n2 = b.weighs.length := by obtain ⟨_, _, e, _⟩ := hS.w; injection e
  have HN2 := Lib.hid hn2
  have h8 : (n2 : Int) ≤ 1000 := by have := HBD.out.nw; omega
  obtain ⟨nl, hnl⟩ : ∃ nl : Nat, b.layers = (nl : Int) := ⟨b.layers.toNat, by have := HBD.out.l1; omega⟩
  have HNL := Lib.hid (show b.layers = (nl : Int) ∧ b.layers.toNat = nl ∧ y.layers.toNat = nl ∧ 1 ≤ nl ∧ nl ≤ 5 by have := HBD.out.l1; have := HBD.out.l5; have := hm.lay; omega)
  have h5 : (nl : Int) ≤ 5 := by have := HNL.out; omega
  clear hv ho hvy hoy hm hx7 hS hY hnl hn2
  delta Tryz.f3
  simp only [restM, Option.getD_some]
  have y1 : w8.cell? ⟨q0, 1, none⟩ = some (.int .i64 (nl : Int)) := by rw [← HNL.out.1]; exact S.out.cells.2.1
  have yl : q0 < w8.heap.size := S.out.p.lt
  go_wp2
  clear y1 yl
  go_loopg [138] nl (fun gg s138 wr => ∃ k : Nat, k ≤ nl ∧ nl - k ≤ gg ∧ s138 = .int .i64 (k : Int) ∧ Aside (Ext w8 wr))
  case atStart => exact ⟨0, by omega, by omega, rfl, Ext.refl _⟩
  case round =>
    obtain ⟨k, hk, hg, rfl, EX⟩ := hrel
    by_cases hlt : k < nl
    · -- BLOCK a
      have hltz : (k : Int) < (nl : Int) := by omega
      have HL := Lib.hid (layer_ok HV.out HO.out (show k < b.layers.toNat by rw [HNL.out.2.1]; exact hlt))
      have HLY := Lib.hid (layer_ok HVY.out HOY.out (show k < y.layers.toNat by rw [HNL.out.2.2.1]; exact hlt))
      have HIN := Lib.hid (more_layer HM.out HOY.out (show k < y.layers.toNat by rw [HNL.out.2.2.1]; exact hlt))
      obtain ⟨y0, y1, y2, y3, y4, y5, yl⟩ := (S.out.ext EX.out).cells
      go_wp2_with fail
      clear y0 y1 y2 y3 y4 y5 yl
      refine (layer_any b (k : Int) _ _ _ (S.out.t.ext EX.out) (S.out.d.ext EX.out) (S.out.w.ext EX.out)).mono ?_
      rintro e w9 ⟨rfl, hE⟩
      have E9 := Lib.hid (EX.out.trans hE); clear hE EX
      rw [HL.out.1, HL.out.2, ask_ok HV.out HO.out]
      generalize spanAt b.draws (k : Int) = sb at HIN
      obtain ⟨bl, bh⟩ := sb
      obtain ⟨y0, y1, y2, y3, y4, y5, yl⟩ := (Y.out.ext E9.out).cells
      dsimp only [valS]
      go_wp2_with fail
      clear y0 y1 y2 y3 y4 y5 yl
      have E10 := Lib.hid (E9.out.alloc (.cells #[.int .i64 bl, .int .i64 bh] 23))
      have A10 := Lib.hid (Blk.new w9 23 #[.int .i64 bl, .int .i64 bh])
      refine (layer_any y (k : Int) _ _ _ (Y.out.t.ext E10.out) (Y.out.d.ext E10.out) (Y.out.w.ext E10.out)).mono ?_
      rintro e w11 ⟨rfl, hE⟩
      have E11 := Lib.hid (E10.out.trans hE)
      have A11 := Lib.hid (A10.out.ext hE); clear hE E9 E10 A10
      rw [HLY.out.1, HLY.out.2, ask_ok HVY.out HOY.out]
      generalize spanAt y.draws (k : Int) = sy at HIN
      obtain ⟨ql, qh⟩ := sy
      have a0 := A11.out.cell 0
      have a1 := A11.out.cell 1
      have al := A11.out.lt
      simp at a0 a1
      dsimp only [valS]
      go_wp2_with fail
      clear a0 a1 al
      have E12 := Lib.hid (E11.out.alloc (.cells #[.int .i64 ql, .int .i64 qh] 23))
      refine (inner_any HIN.out _).mono ?_
      rintro e w13 ⟨rfl, hE⟩
      have E13 := Lib.hid (E12.out.trans hE); clear hE E12 E11 A11
      go_wp2
      go_roundg (nl - (k + 1))
      case measure => omega
      case rel => exact ⟨k + 1, by omega, by omega, by simp, E13.out⟩
      -- END a
    · obtain rfl : k = nl := by omega
      clear hlt hk hg
      go_wp2
      go_loopg [33] 4 (fun gg s33 wr => ∃ kk : Nat, kk ≤ 4 ∧ 4 - kk ≤ gg ∧ s33 = .int .i64 ((kk : Int) + 1) ∧ Aside (Ext w8 wr))
      case atStart => exact ⟨0, by omega, by omega, rfl, EX.out⟩
      case round =>
        obtain ⟨kk, hkk, hg, rfl, EX⟩ := hrel
        by_cases hlt : kk < 4
        · -- BLOCK c
          have hltz : (kk : Int) + 1 ≤ 4 := by omega
          obtain ⟨y0, y1, y2, y3, y4, y5, yl⟩ := (S.out.ext EX.out).cells
          go_wp2_with fail
          clear y0 y1 y2 y3 y4 y5 yl
          refine (kindC_any b ((kk : Int) + 1) _ _ _ (S.out.t.ext EX.out) (S.out.d.ext EX.out) (S.out.w.ext EX.out)).mono ?_
          rintro e w9 ⟨rfl, hE⟩
          have E9 := Lib.hid (EX.out.trans hE); clear hE EX
          obtain ⟨k1, k2⟩ := kindB_ok HV.out HO.out (k := (kk : Int) + 1) (by omega) (by omega)
          obtain ⟨k3, k4⟩ := kindB_ok HVY.out HOY.out (k := (kk : Int) + 1) (by omega) (by omega)
          have HK3 := Lib.hid k3
          rw [k1, k2, ask_ok HV.out HO.out]
          obtain ⟨y0, y1, y2, y3, y4, y5, yl⟩ := (Y.out.ext E9.out).cells
          clear k1 k3
          go_wp2_with fail
          clear y0 y1 y2 y3 y4 y5 yl
          refine (kindC_any y ((kk : Int) + 1) _ _ _ (Y.out.t.ext E9.out) (Y.out.d.ext E9.out) (Y.out.w.ext E9.out)).mono ?_
          rintro e w10 ⟨rfl, hE⟩
          have E10 := Lib.hid (E9.out.trans hE); clear hE E9
          rw [HK3.out, k4, ask_ok HVY.out HOY.out]
          have hmk := more_kind HM.out HV.out HVY.out HOY.out (k := (kk : Int) + 1) (by omega) (by omega)
          have hb3 := kindK_bd (kindS b) ((kk : Int) + 1)
          clear k2 k4 HK3
          generalize kindK (kindS b) ((kk : Int) + 1) = v at hmk hb3
          generalize kindK (kindS y) ((kk : Int) + 1) = v' at hmk
          rcases hb3 with rfl | rfl | rfl
          · obtain rfl := hmk (by decide)
            go_wp2
            go_roundg (4 - (kk + 1))
            case measure => omega
            case rel => exact ⟨kk + 1, by omega, by omega, by simp <;> omega, E10.out⟩
          · clear hmk
            go_wp2
            go_roundg (4 - (kk + 1))
            case measure => omega
            case rel => exact ⟨kk + 1, by omega, by omega, by simp <;> omega, E10.out⟩
          · obtain rfl := hmk (by decide)
            go_wp2
            go_roundg (4 - (kk + 1))
            case measure => omega
            case rel => exact ⟨kk + 1, by omega, by omega, by simp <;> omega, E10.out⟩
          -- END c
        · obtain rfl : kk = 4 := by omega
          clear hlt hkk hg
          have HD := Lib.hid (more_dry HM.out HV.out HO.out HVY.out HOY.out)
          obtain ⟨y0, y1, y2, y3, y4, y5, yl⟩ := (S.out.ext EX.out).cells
          go_wp2_with fail
          clear y0 y1 y2 y3 y4 y5 yl
          refine (dry_any b _ _ _ (S.out.t.ext EX.out) (S.out.d.ext EX.out) (S.out.w.ext EX.out)).mono ?_
          rintro e w9 ⟨rfl, hE⟩
          have E9 := Lib.hid (EX.out.trans hE); clear hE EX
          rw [ask_ok HV.out HO.out]
          generalize dryB b = sb at HD
          obtain ⟨bl, bh⟩ := sb
          obtain ⟨y0, y1, y2, y3, y4, y5, yl⟩ := (Y.out.ext E9.out).cells
          dsimp only [valS]
          go_wp2_with fail
          clear y0 y1 y2 y3 y4 y5 yl
          have E10 := Lib.hid (E9.out.alloc (.cells #[.int .i64 bl, .int .i64 bh] 23))
          have A10 := Lib.hid (Blk.new w9 23 #[.int .i64 bl, .int .i64 bh])
          refine (dry_any y _ _ _ (Y.out.t.ext E10.out) (Y.out.d.ext E10.out) (Y.out.w.ext E10.out)).mono ?_
          rintro e w11 ⟨rfl, hE⟩
          have E11 := Lib.hid (E10.out.trans hE)
          have A11 := Lib.hid (A10.out.ext hE); clear hE E9 E10 A10
          rw [ask_ok HVY.out HOY.out]
          generalize dryB y = sy at HD
          obtain ⟨ql, qh⟩ := sy
          have a0 := A11.out.cell 0
          have a1 := A11.out.cell 1
          have al := A11.out.lt
          simp at a0 a1
          dsimp only [valS]
          go_wp2_with fail
          clear a0 a1 al
          have E12 := Lib.hid (E11.out.alloc (.cells #[.int .i64 ql, .int .i64 qh] 23))
          refine (inner_any HD.out _).mono ?_
          rintro e w13 ⟨rfl, hE⟩
          have E13 := Lib.hid (E12.out.trans hE); clear hE E12 E11 A11
          obtain ⟨y0, y1, y2, y3, y4, y5, yl⟩ := (S.out.ext E13.out).cells
          go_wp2
          clear y0 y1 y2 y3 y4 y5 yl
          go_loopg [222] n2 (fun gg s222 wr => ∃ j : Nat, j ≤ n2 ∧ n2 - j ≤ gg ∧ s222 = .int .i64 (j : Int) ∧ Aside (Ext w8 wr))
          case atStart => exact ⟨0, by omega, by omega, rfl, E13.out⟩
          case round =>
            obtain ⟨j, hj, hg, rfl, EX⟩ := hrel
            by_cases hlt : j < n2
            · -- BLOCK e
              have hltz : (j : Int) < (n2 : Int) := by omega
              obtain ⟨bb, off, x, rfl, hx, hb, hcell⟩ := S.out.w.at_ hlt
              have HXM := Lib.hid (List.mem_of_getElem? hx)
              have HIN := Lib.hid (more_wet HM.out HV.out HO.out HVY.out HOY.out HXM.out)
              have HWI := Lib.hid (wet_at HV.out HO.out HXM.out).1
              have HWY := Lib.hid (wet_at HVY.out HOY.out (HM.out.weighs x HXM.out)).1
              obtain ⟨z0, z1, z2, z3⟩ := SlW.cells hcell EX.out
              obtain ⟨y0, y1, y2, y3, y4, y5, yl⟩ := (S.out.ext EX.out).cells
              clear hx hcell hb
              go_wp2_with fail
              clear y0 y1 y2 y3 y4 y5 yl z0 z1 z2 z3
              have E9 := Lib.hid (EX.out.alloc (.cells #[.int .i64 x.number, .int .i64 x.pounds, .int .i64 x.damp.lo, .int .i64 x.damp.hi] 41))
              have Z9 := Lib.hid (Blk.new wr 41 #[.int .i64 x.number, .int .i64 x.pounds, .int .i64 x.damp.lo, .int .i64 x.damp.hi])
              refine (wet_any b x.number _ _ _ (S.out.t.ext E9.out) (S.out.d.ext E9.out) (S.out.w.ext E9.out) (by have := HBD.out.nw; omega)).mono ?_
              rintro e w10 ⟨rfl, hE⟩
              have E10 := Lib.hid (E9.out.trans hE)
              have Z10 := Lib.hid (Z9.out.ext hE); clear hE EX E9 Z9
              rw [HWI.out, ask_ok HV.out HO.out]
              generalize wetB b x.number = sb at HIN
              obtain ⟨bl, bh⟩ := sb
              obtain ⟨y0, y1, y2, y3, y4, y5, yl⟩ := (Y.out.ext E10.out).cells
              have z0 := Z10.out.cell 0
              have zl := Z10.out.lt
              simp at z0
              dsimp only [valS]
              go_wp2_with fail
              clear y0 y1 y2 y3 y4 y5 yl z0 zl
              have E11 := Lib.hid (E10.out.alloc (.cells #[.int .i64 bl, .int .i64 bh] 23))
              have A11 := Lib.hid (Blk.new w10 23 #[.int .i64 bl, .int .i64 bh])
              refine (wet_any y x.number _ _ _ (Y.out.t.ext E11.out) (Y.out.d.ext E11.out) (Y.out.w.ext E11.out) (by have := (valid_bds HVY.out).nw; omega)).mono ?_
              rintro e w12 ⟨rfl, hE⟩
              have E12 := Lib.hid (E11.out.trans hE)
              have A12 := Lib.hid (A11.out.ext hE); clear hE E10 E11 A11 Z10
              rw [HWY.out, ask_ok HVY.out HOY.out]
              generalize wetB y x.number = sy at HIN
              obtain ⟨ql, qh⟩ := sy
              have a0 := A12.out.cell 0
              have a1 := A12.out.cell 1
              have al := A12.out.lt
              simp at a0 a1
              dsimp only [valS]
              go_wp2_with fail
              clear a0 a1 al
              have E13 := Lib.hid (E12.out.alloc (.cells #[.int .i64 ql, .int .i64 qh] 23))
              refine (inner_any HIN.out _).mono ?_
              rintro e w14 ⟨rfl, hE⟩
              have E14 := Lib.hid (E13.out.trans hE); clear hE E13 E12 A12
              go_wp2
              go_roundg (n2 - (j + 1))
              case measure => omega
              case rel => exact ⟨j + 1, by omega, by omega, by simp, E14.out⟩
              -- END e
            · obtain rfl : j = n2 := by omega
              obtain ⟨d, hd⟩ : ∃ d : Int, d = x7 % 201 := ⟨_, rfl⟩
              have hx7 := HX7.out
              have hd0 : 0 ≤ d := by omega
              have hd1 : d ≤ 200 := by omega
              have r7 : x7.tmod 201 = d := by rw [Int.tmod_eq_emod_of_nonneg hx7.1]; exact hd.symm
              have u7 : IntKind.i64.wrap x7 = x7 := wrap_small _ (by omega) (by omega)
              have HMA := Lib.hid (fun h => more_aside HM.out HV.out HO.out HVY.out HOY.out hd0 hd1 h)
              have HAB := Lib.hid (aside_bd HV.out HO.out hd0 hd1)
              have HDI := Lib.hid (damp_in hd0 hd1)
              clear hd hx7 hd0 hd1 hlt hj hg
              obtain ⟨y0, y1, y2, y3, y4, y5, yl⟩ := (S.out.ext EX.out).cells
              go_wp2_with fail
              clear y0 y1 y2 y3 y4 y5 yl r7 u7
              refine (aside_any b d _ _ _ (S.out.t.ext EX.out) (S.out.d.ext EX.out) (S.out.w.ext EX.out)).mono ?_
              rintro e w9 ⟨rfl, hE⟩
              have E9 := Lib.hid (EX.out.trans hE); clear hE EX
              rw [HDI.out, ask_ok HV.out HO.out]
              obtain ⟨y0, y1, y2, y3, y4, y5, yl⟩ := (Y.out.ext E9.out).cells
              go_wp2_with fail
              clear y0 y1 y2 y3 y4 y5 yl
              refine (aside_any y d _ _ _ (Y.out.t.ext E9.out) (Y.out.d.ext E9.out) (Y.out.w.ext E9.out)).mono ?_
              rintro e w10 ⟨rfl, hE⟩
              have E10 := Lib.hid (E9.out.trans hE); clear hE E9
              rw [HDI.out, ask_ok HVY.out HOY.out]
              generalize asideB b d = va at HMA HAB
              rcases HAB.out with rfl | rfl | rfl
              · go_wp2
                go_ret
                exact ⟨rfl, S.out.e.trans E10.out⟩
              · go_wp2
                go_ret
                exact ⟨rfl, S.out.e.trans E10.out⟩
              · rw [HMA.out rfl]
                go_wp2
                go_ret
                exact ⟨rfl, S.out.e.trans E10.out⟩
end Go.Proofs.YtfhmfbhpehldpaaGreatDoor
/- A bale is laid into a box that the region itself made. -/
namespace Go.Proofs.YtfhmfbhpehldpaaGreatDoor
open Go.RowKit Go.Shelf Go.Lib
set_option maxRecDepth 100000
set_option linter.unusedSimpArgs false
set_option linter.unusedVariables false

theorem TwinV.mono {b : Bale} {base base' : Nat} {v : Value} {W : World} (h : TwinV b base v W) (hb : base' ≤ base) : TwinV b base' v W := by
  obtain ⟨dv, wv, h1, h2, h3⟩ := h
  exact ⟨dv, wv, h1, h2.mono hb, h3.mono hb⟩
theorem grown_set6 (V : World) (q : Nat) (y0 y1 y2 y3 y4 y5 : Value) : V.grownBy (set6 V q y0 y1 y2 y3 y4 y5) (some q) :=
  grown_set (grown_set (grown_set (grown_set (grown_set (grown_set (World.grownBy.refl _ _) (p := ⟨q, 0, none⟩) (.inl rfl) y0) (p := ⟨q, 1, none⟩) (.inl rfl) y1) (p := ⟨q, 2, none⟩) (.inl rfl) y2) (p := ⟨q, 3, none⟩) (.inl rfl) y3) (p := ⟨q, 4, none⟩) (.inl rfl) y4) (p := ⟨q, 5, none⟩) (.inl rfl) y5
theorem own_past {α : Type} {enc : α → List Value} {sz base g : Nat} {e t : TypeId} {cs : Array Value} {w w' : World} {v : Value} {l : List α} (h : Own enc e sz w base v l) (hB : Blk w g t cs) (hne : e ≠ t) (hG : w.grownBy w' (some g)) : Own enc e sz w' base v l := by
  refine ⟨h.1, ?_⟩
  rcases h.2 with h2 | ⟨g2, cap, cur, e1, hb, hg, h5⟩
  · exact .inl h2
  · refine .inr ⟨g2, cap, cur, e1, hb, (hG.block g2 (Array.getElem?_eq_some_iff.1 hg).1 ?_).trans hg, h5⟩
    intro e2
    injection e2 with e2
    subst e2
    unfold Blk at hB
    rw [hg] at hB
    injection hB with hB
    injection hB with _ e3 _
    exact hne e3

/-- Block i holds bale B. -/
def FilB (B : Bale) (s : Nat) (V : World) (i : Nat) : Prop := ∃ dv wv, Blk V i 27 #[.int .i64 B.id, .int .i64 B.layers, .int .i64 B.dry.lo, .int .i64 B.dry.hi, dv, wv] ∧ Own encD 37 4 V s dv B.draws ∧ Own encW 41 4 V s wv B.weighs
/-- Nothing turns but boxes of bales, and none that holds B. -/
def RX (B : Bale) (s : Nat) (V V' : World) : Prop := V.heap.size ≤ V'.heap.size ∧ (∀ i, i < V.heap.size → (∀ cs, ¬ Blk V i 27 cs) → V'.heap[i]? = V.heap[i]?) ∧ (∀ i cs, Blk V i 27 cs → ∃ cs', Blk V' i 27 cs' ∧ cs'.size = cs.size) ∧ (∀ i, FilB B s V i → FilB B s V' i)
theorem RX.ext {B : Bale} {s : Nat} {V V' : World} (h : Ext V V') : RX B s V V' :=
  ⟨h.size, fun i hi _ => h.block i hi, fun i cs hB => ⟨cs, hB.ext h, rfl⟩, fun i ⟨dv, wv, h1, h2, h3⟩ => ⟨dv, wv, h1.ext h, h2.ext h, h3.ext h⟩⟩
theorem RX.refl {B : Bale} {s : Nat} (V : World) : RX B s V V := RX.ext (Ext.refl V)
theorem own_rx {B : Bale} {s : Nat} {α : Type} {enc : α → List Value} {sz base : Nat} {e : TypeId} {V V' : World} {v : Value} {l : List α} (h : Own enc e sz V base v l) (hne : e ≠ 27) (hR : RX B s V V') : Own enc e sz V' base v l := by
  refine ⟨h.1, ?_⟩
  rcases h.2 with h2 | ⟨g2, cap, cur, e1, hb, hg, h5⟩
  · exact .inl h2
  · refine .inr ⟨g2, cap, cur, e1, hb, (hR.2.1 g2 (Array.getElem?_eq_some_iff.1 hg).1 ?_).trans hg, h5⟩
    intro cs hB
    unfold Blk at hB
    rw [hg] at hB
    injection hB with hB
    injection hB with _ e3 _
    exact hne e3
theorem TwinV.rx {B b : Bale} {s base : Nat} {V V' : World} {v : Value} (h : TwinV b base v V) (hR : RX B s V V') : TwinV b base v V' := by
  obtain ⟨dv, wv, h1, h2, h3⟩ := h
  exact ⟨dv, wv, h1, own_rx h2 (by decide) hR, own_rx h3 (by decide) hR⟩
/-- A box for a bale. -/
def BoxW (s : Nat) (v : Value) (V : World) : Prop := ∃ q, v = .pointer (some ⟨q, 0, none⟩) ∧ s ≤ q ∧ ∃ x0 x1 x2 x3 x4 x5, Blk V q 27 #[x0, x1, x2, x3, x4, x5]
theorem BoxW.rx {B : Bale} {s : Nat} {v : Value} {V V' : World} (h : BoxW s v V) (hR : RX B s V V') : BoxW s v V' := by
  obtain ⟨q, e, hq, x0, x1, x2, x3, x4, x5, hB⟩ := h
  obtain ⟨⟨cs⟩, hB', hs⟩ := hR.2.2.1 q _ hB
  match cs, hs with
  | [y0, y1, y2, y3, y4, y5], _ => exact ⟨q, e, hq, y0, y1, y2, y3, y4, y5, hB'⟩
/-- A box that holds B. -/
def FilV (B : Bale) (s : Nat) (v : Value) (V : World) : Prop := ∃ q, v = .pointer (some ⟨q, 0, none⟩) ∧ s ≤ q ∧ FilB B s V q
theorem FilV.rx {B : Bale} {s : Nat} {v : Value} {V V' : World} (h : FilV B s v V) (hR : RX B s V V') : FilV B s v V' := by
  obtain ⟨q, e, hq, hF⟩ := h
  exact ⟨q, e, hq, hR.2.2.2 q hF⟩
/-- A bale that was told, with no error. -/
def PutF (B : Bale) (s : Nat) (v : Value) (W : World) : Prop := ∃ u, v = .tuple #[u, .int .i64 0] ∧ TwinV B s u W
theorem PutF.rx {B b : Bale} {s base : Nat} {V V' : World} {v : Value} (h : PutF b base v V) (hR : RX B s V V') : PutF b base v V' := by
  obtain ⟨u, h1, h2⟩ := h
  exact ⟨u, h1, h2.rx hR⟩
/-- The store. -/
theorem box_store {B : Bale} {w3 V : World} {q : Nat} {dv wv x0 x1 x2 x3 x4 x5 : Value} (hB : Blk V q 27 #[x0, x1, x2, x3, x4, x5]) (hq : w3.heap.size ≤ q) (hE : Ext w3 V) (o1 : Own encD 37 4 V w3.heap.size dv B.draws) (o2 : Own encW 41 4 V w3.heap.size wv B.weighs) :
    CR (fun V => Ext w3 V) (fun V V' => RX B w3.heap.size V V') V (set6 V q (.int .i64 B.id) (.int .i64 B.layers) (.int .i64 B.dry.lo) (.int .i64 B.dry.hi) dv wv) ∧ FilV B w3.heap.size (.pointer (some ⟨q, 0, none⟩)) (set6 V q (.int .i64 B.id) (.int .i64 B.layers) (.int .i64 B.dry.lo) (.int .i64 B.dry.hi) dv wv) := by
  have hG := grown_set6 V q (.int .i64 B.id) (.int .i64 B.layers) (.int .i64 B.dry.lo) (.int .i64 B.dry.hi) dv wv
  have hN := hB.set6 (.int .i64 B.id) (.int .i64 B.layers) (.int .i64 B.dry.lo) (.int .i64 B.dry.hi) dv wv
  generalize set6 V q (.int .i64 B.id) (.int .i64 B.layers) (.int .i64 B.dry.lo) (.int .i64 B.dry.hi) dv wv = V' at hG hN
  have hF : FilB B w3.heap.size V' q := ⟨dv, wv, hN, own_past o1 hB (by decide) hG, own_past o2 hB (by decide) hG⟩
  refine ⟨⟨ext_grownP hE hG hq, hG.size, ?_, ?_, ?_⟩, q, rfl, hq, hF⟩
  · intro i hi hn
    refine hG.block i hi ?_
    intro e
    injection e with e
    subst e
    exact hn _ hB
  · intro i cs hi
    by_cases e : i = q
    · subst e
      refine ⟨_, hN, ?_⟩
      unfold Blk at hi hB
      rw [hB] at hi
      injection hi with hi
      injection hi with hi _ _
      rw [← hi]
      rfl
    · exact ⟨cs, (hG.block i hi.lt (by intro h; injection h with h; exact e h)).trans hi, rfl⟩
  · rintro i ⟨dv', wv', h1, h2, h3⟩
    by_cases e : i = q
    · subst e; exact hF
    · exact ⟨dv', wv', (hG.block i h1.lt (by intro h; injection h with h; exact e h)).trans h1, own_past h2 hB (by decide) hG, own_past h3 hB (by decide) hG⟩
end Go.Proofs.YtfhmfbhpehldpaaGreatDoor
