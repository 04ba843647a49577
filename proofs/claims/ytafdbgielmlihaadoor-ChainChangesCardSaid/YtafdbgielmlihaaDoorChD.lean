/- The reference's SameInts, Same and Twin. -/
import Derived.Test.YtafdbgielmlihaaDoorChC
import Derived.Test.YtafdbgielmlihaaDoorCopy
import Derived.Test.YtafdbgielmlihaaDoorTameL
import Derived.WalkMore
import Derived.RegionTactic
namespace Go.Proofs.YtafdbgielmlihaaDoor
open Go.RowKit Go.Shelf Go.Lib
set_option maxRecDepth 100000
set_option linter.unusedSimpArgs false

theorem sameInts4_any (l : List Int) (v v' : Value) (w : World) (h : SlI w v l) (h' : SlI w v' l) :
    Calls Tryd.prog 79 #[v, v'] w fun e w' => e = .returned (.bool true) ∧ Ext w w' := by
  have HA := Lib.hid h
  have HB := Lib.hid h'
  obtain ⟨A, n, cp, rfl, hn, hlc, hcm⟩ := h.form
  obtain ⟨A2, n2, cp2, rfl, hn2, hlc2, hcm2⟩ := h'.form
  have hnn : n2 = n := by have := hn.out; have := hn2.out; omega
  subst hnn
  clear h h'
  go_enter Tryd.func79, Tryd.ntmps79
  go_wp2
  go_loopg [5] n2 (fun gg s wr => ∃ (k : Nat), k ≤ n2 ∧ n2 - k ≤ gg ∧ s = .int .i64 k ∧ Aside (Ext w wr))
  case atStart => exact ⟨0, by omega, by omega, rfl, Ext.refl _⟩
  case round =>
    obtain ⟨k, hk, hg, rfl, EW⟩ := hrel
    by_cases hlt : k < n2
    · have hjz : (k : Int) < (n2 : Int) := by omega
      obtain ⟨bb, off, x, rfl, hx, hb, hcell⟩ := HA.out.at_ hlt
      obtain ⟨bb', off', x', rfl, hx', hb', hcell'⟩ := HB.out.at_ hlt
      have hxx : x' = x := by rw [hx] at hx'; injection hx' with h; exact h.symm
      subst hxx
      have c0 := fun W (h : Ext wr W) => SlI.cell hcell (EW.out.trans h)
      have c1 := fun W (h : Ext wr W) => SlI.cell hcell' (EW.out.trans h)
      clear hx hx' hcell hcell'
      go_wp2
      refine wp_region_tame (fun W => Ext wr W) (fun W W' => Ext W W') (by kernel_rfl) 26 rfl (by decide +kernel) (Ext.refl _).drew ?_
      repeat (apply tame_q rfl; (intro ρ W hC hr hD; (obtain ⟨hrc, hrg, hrf, hrs⟩ := hr); (simp [go_sem] at hD); go_simp; first | exact ⟨⟨hC, Ext.refl _⟩, rfl⟩ | exact ⟨⟨hC, RS.refl _⟩, rfl⟩ | exact rfl); simp only [List.nil_append, List.cons_append])
      refine tame_end 26 rfl rfl (fun ρ W hC hr hF => ?_)
      obtain ⟨hrc, hrg, hrf, hrs⟩ := hr
      simp [go_sem] at hF
      apply frame_to
      · go_simp
        exact rfl
      clear hF hrs hrc hrg hrf
      have HC := Lib.hid hC; clear hC
      go_wp2
      go_roundg (n2 - (k + 1))
      case measure => omega
      case rel => exact ⟨k + 1, by omega, by omega, rfl, EW.out.trans HC.out⟩
    · go_wp2
      go_ret
      exact ⟨rfl, EW.out⟩
theorem sameInts_any (l : List Int) (v v' : Value) (w : World) (h : SlI w v l) (h' : SlI w v' l) :
    Calls Tryd.prog 26 #[v, v'] w fun e w' => e = .returned (.bool true) ∧ Ext w w' := by
  have HA := Lib.hid h
  have HB := Lib.hid h'
  clear h h'
  go_enter Tryd.func26, Tryd.ntmps26
  go_wp2_with (go_at_call 79; refine (sameInts4_any l _ _ _ HA.out HB.out).mono ?_; rintro e w' ⟨rfl, hb'⟩)
  go_ret
  exact ⟨rfl, hb'⟩

theorem und68 : Tryd.prog.underlying 68 = some (.struct (Tryd.prog.fieldsOf 68)) := by kernel_rfl
theorem held68 : Tryd.prog.stoodInHeld 68 = false := by kernel_rfl
theorem neq68s (a b c d e : Int) (w : World) : (binOp .neq 68 (.agg #[.int .i64 a, .int .i64 b, .int .i64 c, .int .i64 d, .int .i64 e]) (.agg #[.int .i64 a, .int .i64 b, .int .i64 c, .int .i64 d, .int .i64 e])).run Tryd.prog w = .ok (.bool false) w := by
  have u3 := Tryd.underlying3
  have a3 := Tryd.isAgg3
  have z3 := Tryd.sizeOf3
  rw [run_neq_struct, show (10000 : Nat) = 9999 + 1 from rfl, run_equalIn_agg w 9999 68 _ _ und68 held68]
  simp only [Program.fieldsOf, Tryd.underlying68]
  go_simp

set_option maxHeartbeats 1000000 in
theorem same_any (c : Chn) (hv sv hv' sv' : Value) (w : World) (hh : SlI w hv c.houses) (hs : SlL w sv c.sales) (hh' : SlI w hv' c.houses) (hs' : SlL w sv' c.sales) :
    Calls Tryd.prog 27 #[valC hv sv, valC hv' sv'] w fun e w' => e = .returned (.bool true) ∧ Ext w w' := by
  have HH := Lib.hid hh
  have HS := Lib.hid hs
  have HH' := Lib.hid hh'
  have HS' := Lib.hid hs'
  obtain ⟨A, n, cp, rfl, hn, hlc, hcm⟩ := hh.form
  obtain ⟨A2, n2, cp2, rfl, hn2, hlc2, hcm2⟩ := hs.form
  obtain ⟨A3, n3, cp3, rfl, hn3, hlc3, hcm3⟩ := hh'.form
  obtain ⟨A4, n4, cp4, rfl, hn4, hlc4, hcm4⟩ := hs'.form
  have e2 : n4 = n2 := by have := hn2.out; have := hn4.out; omega
  subst e2
  have nq := neq68s
  clear hh hs hh' hs'
  go_enter Tryd.func27, Tryd.ntmps27
  go_wp2_with fail
  refine (sameInts_any c.houses _ _ _ (HH.out.ext ((Ext.al _ _).alloc _)) (HH'.out.ext ((Ext.al _ _).alloc _))).mono ?_
  rintro e w1 ⟨rfl, hE⟩
  have HB1 := Lib.hid (show Blk w1 w.heap.size 25 #[.slice A n cp, .slice A2 n4 cp2] from ((Blk.new _ _ _).alloc _).ext hE)
  have HB2 := Lib.hid (show Blk w1 (w.heap.size + 1) 25 #[.slice A3 n3 cp3, .slice A4 n4 cp4] from (Blk.at_ (by simp)).ext hE)
  have HE := Lib.hid (((Ext.al _ _).alloc _).trans hE); clear hE
  have k1 := HB1.out.c2
  have k2 := HB2.out.c2
  go_wp2
  clear k1 k2
  go_loopg [5] n4 (fun gg s wr => ∃ (k : Nat), k ≤ n4 ∧ n4 - k ≤ gg ∧ s = .int .i64 k ∧ Aside (Blk wr w.heap.size 25 #[.slice A n cp, .slice A2 n4 cp2]) ∧ Aside (Blk wr (w.heap.size + 1) 25 #[.slice A3 n3 cp3, .slice A4 n4 cp4]) ∧ Aside (Ext w wr))
  case atStart => exact ⟨0, by omega, by omega, rfl, HB1.out, HB2.out, HE.out⟩
  case round =>
    clear HB1 HB2 HE
    obtain ⟨k, hk, hg, rfl, B1, B2, EW⟩ := hrel
    have q4 := B1.out.c2
    have r4 := B2.out.c2
    by_cases hlt : k < n4
    · have hjz : (k : Int) < (n4 : Int) := by omega
      obtain ⟨bb, off, x, rfl, hx, hb, hcell⟩ := HS.out.at_ hlt
      obtain ⟨bb', off', x', rfl, hx', hb', hcell'⟩ := HS'.out.at_ hlt
      have hxx : x' = x := by rw [hx] at hx'; injection hx' with h; exact h.symm
      subst hxx
      have f4 := fun W (h : Ext wr W) => (B1.out.ext h).c2
      have g4 := fun W (h : Ext wr W) => (B2.out.ext h).c2
      have f1 := fun W (h : Ext wr W) => (f4 W h).2.1
      have g1 := fun W (h : Ext wr W) => (g4 W h).2.1
      have c0 := fun W (h : Ext wr W) => (SlL.cells hcell (EW.out.trans h)).1
      have c1 := fun W (h : Ext wr W) => (SlL.cells hcell (EW.out.trans h)).2.1
      have c2 := fun W (h : Ext wr W) => (SlL.cells hcell (EW.out.trans h)).2.2.1
      have c3 := fun W (h : Ext wr W) => (SlL.cells hcell (EW.out.trans h)).2.2.2.1
      have c4 := fun W (h : Ext wr W) => (SlL.cells hcell (EW.out.trans h)).2.2.2.2
      have d0 := fun W (h : Ext wr W) => (SlL.cells hcell' (EW.out.trans h)).1
      have d1 := fun W (h : Ext wr W) => (SlL.cells hcell' (EW.out.trans h)).2.1
      have d2 := fun W (h : Ext wr W) => (SlL.cells hcell' (EW.out.trans h)).2.2.1
      have d3 := fun W (h : Ext wr W) => (SlL.cells hcell' (EW.out.trans h)).2.2.2.1
      have d4 := fun W (h : Ext wr W) => (SlL.cells hcell' (EW.out.trans h)).2.2.2.2
      clear hx hx' hcell hcell' f4 g4
      go_wp2
      refine wp_region_tame (fun W => Ext wr W) (fun W W' => Ext W W') (by kernel_rfl) 39 rfl (by decide +kernel) (Ext.refl _).drew ?_
      repeat (apply tame_q rfl; (intro ρ W hC hr hD; (obtain ⟨hrc, hrg, hrf, hrs⟩ := hr); (simp [go_sem] at hD); go_simp; first | exact ⟨⟨hC, Ext.refl _⟩, rfl⟩ | exact ⟨⟨hC, RS.refl _⟩, rfl⟩ | exact rfl); simp only [List.nil_append, List.cons_append])
      refine tame_end 39 rfl rfl (fun ρ W hC hr hF => ?_)
      obtain ⟨hrc, hrg, hrf, hrs⟩ := hr
      simp [go_sem] at hF
      apply frame_to
      · go_simp
        exact rfl
      clear hF hrs hrc hrg hrf
      have HC := Lib.hid hC; clear hC f1 g1 c0 c1 c2 c3 c4 d0 d1 d2 d3 d4
      go_wp2
      go_roundg (n4 - (k + 1))
      case measure => omega
      case rel => exact ⟨k + 1, by omega, by omega, rfl, B1.out.ext HC.out, B2.out.ext HC.out, EW.out.trans HC.out⟩
    · go_wp2
      go_ret
      exact ⟨rfl, EW.out⟩

/-! Twins. -/
theorem info68x : (Tryd.prog.info? 68).map (fun i => (i.zero, i.size, i.bytes)) = some (some (.agg #[.int .i64 0, .int .i64 0, .int .i64 0, .int .i64 0, .int .i64 0]), 5, 40) := by kernel_rfl
def EmptyAt (t : TypeId) (base : Nat) (v : Value) (W : World) : Prop := ∃ g, v = .slice (some ⟨g, 0, none⟩) 0 0 ∧ base ≤ g ∧ Blk W g t #[]
theorem EmptyAt.ext {t : TypeId} {base : Nat} {v : Value} {W W' : World} (h : EmptyAt t base v W) (e : Ext W W') : EmptyAt t base v W' := by
  obtain ⟨g, h1, h2, h3⟩ := h; exact ⟨g, h1, h2, h3.ext e⟩
def TwinC (c : Chn) (base : Nat) (v : Value) (W : World) : Prop := ∃ hv sv, v = valC hv sv ∧ Own encI 3 1 W base hv c.houses ∧ Own encL 68 5 W base sv c.sales
theorem TwinC.ext {c : Chn} {base : Nat} {v : Value} {W W' : World} (h : TwinC c base v W) (e : Ext W W') : TwinC c base v W' := by
  obtain ⟨hv, sv, h1, h2, h3⟩ := h; exact ⟨hv, sv, h1, h2.ext e, h3.ext e⟩
abbrev set2 (W : World) (g : Nat) (y0 y1 : Value) : World := (W.setCell ⟨g, 0, none⟩ y0).setCell ⟨g, 1, none⟩ y1
theorem Blk.set2 {W : World} {g : Nat} {t : TypeId} {x0 x1 : Value} (h : Blk W g t #[x0, x1]) (y0 y1 : Value) : Blk (set2 W g y0 y1) g t #[y0, y1] := by
  have := (h.set_ 0 y0).set_ 1 y1
  simpa using this
theorem ret_set2 {P : Program} {fn : Func} {R : Ending → World → Prop} {ex : Exit} {a : Act} {w1 : World} {g : Nat} {t : TypeId} {x0 x1 y0 y1 : Value} (hB : Blk w1 g t #[x0, x1])
    (h : ∀ W, (W.cell? ⟨g, 0, none⟩ = some y0 ∧ W.cell? ⟨g, 1, none⟩ = some y1) → w1.grownBy W (some g) → bodyPost P fn R ex a W) :
    bodyPost P fn R ex a ((w1.setCell ⟨g, 0, none⟩ y0).setCell ⟨g, 1, none⟩ y1) := by
  have K := hB.set2 y0 y1
  exact h _ ⟨K.cell 0, K.cell 1⟩ (grown_set (grown_set (World.grownBy.refl _ _) (p := ⟨g, 0, none⟩) (.inl rfl) y0) (p := ⟨g, 1, none⟩) (.inl rfl) y1)
set_option maxHeartbeats 1000000 in
theorem twin_any (c : Chn) (hv sv : Value) (w : World) (hh : SlI w hv c.houses) (hs : SlL w sv c.sales) (hlh : c.houses.length ≤ 1000) (hls : c.sales.length ≤ 1000) :
    Calls Tryd.prog 19 #[valC hv sv] w fun e w' => (∃ v, e = .returned v ∧ TwinC c w.heap.size v w') ∧ Ext w w' := by
  have HH := Lib.hid hh
  have HS := Lib.hid hs
  obtain ⟨A, n, cp, rfl, hn, hlc, hcm⟩ := hh.form
  obtain ⟨A2, n2, cp2, rfl, hn2, hlc2, hcm2⟩ := hs.form
  clear hh hs
  go_enter Tryd.func19, Tryd.ntmps19
  go_wp2
  generalize hW0 : (w.alloc (.cells #[.slice A n cp, .slice A2 n2 cp2] 25)).alloc (.cells #[.slice none 0 0, .slice none 0 0] 25) = w1
  have HE := Lib.hid (show Ext w w1 from hW0 ▸ ((Ext.al w _).alloc _))
  have hsz : w1.heap.size = w.heap.size + 2 := by rw [← hW0]; simp
  have HB1 := Lib.hid (show Blk w1 w.heap.size 25 #[.slice A n cp, .slice A2 n2 cp2] from hW0 ▸ ((Blk.at_ rfl).alloc _))
  have HB2 := Lib.hid (show Blk w1 (w.heap.size + 1) 25 #[.slice none 0 0, .slice none 0 0] from hW0 ▸ (Blk.at_ (by simp)))
  clear hW0
  have m0 := fun W (h : Ext w1 W) => (HB1.out.ext h).c2.1
  have m1 := fun W (h : Ext w1 W) => (HB1.out.ext h).c2.2.1
  refine wp_region_tame_cut (fun W => Ext w1 W) (fun W W' => Ext W W') (by kernel_rfl) 12 rfl _ rfl (by decide +kernel) (by decide +kernel) (by decide +kernel) rfl (Ext.refl _).drew ?_
  simp only [List.dropLast]
  repeat (apply tame_q rfl; (intro ρ W hC hr hD; (obtain ⟨hrc, hrg, hrf, hrs⟩ := hr); (simp [go_sem] at hD); go_simp; first | exact ⟨⟨hC, Ext.refl _⟩, rfl⟩ | exact ⟨⟨hC, RS.refl _⟩, rfl⟩ | exact rfl); simp only [List.nil_append, List.cons_append])
  apply tame_v rfl (EmptyAt 3 (w.heap.size + 2)) (fun v W W' _ hE h => h.ext hE)
  · intro ρ W hC hr hD
    obtain ⟨hrc, hrg, hrf, hrs⟩ := hr
    simp [go_sem] at hD
    go_simp
    exact ⟨⟨hC.alloc _, Ext.al _ _⟩, ⟨_, rfl, by have := hC.size; omega, Blk.new _ _ _⟩⟩
  simp only [List.nil_append, List.cons_append]
  repeat (apply tame_q rfl; (intro ρ W hC hr hD; (obtain ⟨hrc, hrg, hrf, hrs⟩ := hr); (simp [go_sem] at hD); go_simp; first | exact ⟨⟨hC, Ext.refl _⟩, rfl⟩ | exact ⟨⟨hC, RS.refl _⟩, rfl⟩ | exact rfl); simp only [List.nil_append, List.cons_append])
  apply tame_v rfl (fun v W => Own encI 3 1 W (w.heap.size + 2) v c.houses) (fun v W W' _ hE h => h.ext hE)
  · intro ρ W hC hr hD
    obtain ⟨hrc, hrg, hrf, hrs⟩ := hr
    simp [go_sem] at hD
    obtain ⟨⟨g9, q1, q2, q3⟩, q4⟩ := hD
    obtain ⟨v', W', hrun, hown, hext⟩ := run_copy (t := 22) (ty := 22) (enc := encI) (sz := 1) Tryd.underlying22 info3x rfl (by decide) (by decide) (fun _ => rfl) q3 q2 (by have := hC.size; omega) (HH.out.ext (HE.out.trans hC)) hlh
    show opGives _ _ _ _ _ _ _
    unfold opGives execOp
    simp only [resolve, invoke, builtin, Sem.run_bind, Sem.run_pure, Result.andThen_ok, List.map_toArray, List.map_cons, List.map_nil, q1, q4, hrun]
    exact ⟨⟨hC.trans hext, hext⟩, hown⟩
  simp only [List.nil_append, List.cons_append]
  apply tame_v rfl (EmptyAt 68 (w.heap.size + 2)) (fun v W W' _ hE h => h.ext hE)
  · intro ρ W hC hr hD
    obtain ⟨hrc, hrg, hrf, hrs⟩ := hr
    simp [go_sem] at hD
    go_simp
    exact ⟨⟨hC.alloc _, Ext.al _ _⟩, ⟨_, rfl, by have := hC.size; omega, Blk.new _ _ _⟩⟩
  simp only [List.nil_append, List.cons_append]
  repeat (apply tame_q rfl; (intro ρ W hC hr hD; (obtain ⟨hrc, hrg, hrf, hrs⟩ := hr); (simp [go_sem] at hD); go_simp; first | exact ⟨⟨hC, Ext.refl _⟩, rfl⟩ | exact ⟨⟨hC, RS.refl _⟩, rfl⟩ | exact rfl); simp only [List.nil_append, List.cons_append])
  apply tame_v rfl (fun v W => Own encL 68 5 W (w.heap.size + 2) v c.sales) (fun v W W' _ hE h => h.ext hE)
  · intro ρ W hC hr hD
    obtain ⟨hrc, hrg, hrf, hrs⟩ := hr
    simp [go_sem] at hD
    obtain ⟨⟨g9, q1, q2, q3⟩, q4⟩ := hD
    obtain ⟨v', W', hrun, hown, hext⟩ := run_copy (t := 23) (ty := 23) (enc := encL) (sz := 5) Tryd.underlying23 info68x rfl (by decide) (by decide) (fun _ => rfl) q3 q2 (by have := hC.size; omega) (HS.out.ext (HE.out.trans hC)) hls
    show opGives _ _ _ _ _ _ _
    unfold opGives execOp
    simp only [resolve, invoke, builtin, Sem.run_bind, Sem.run_pure, Result.andThen_ok, List.map_toArray, List.map_cons, List.map_nil, q1, q4, hrun]
    exact ⟨⟨hC.trans hext, hext⟩, hown⟩
  simp only [List.nil_append, List.cons_append]
  apply tame_v rfl (TwinC c (w.heap.size + 2)) (fun v W W' _ hE h => h.ext hE)
  · intro ρ W hC hr hD
    obtain ⟨hrc, hrg, hrf, hrs⟩ := hr
    simp [go_sem] at hD
    obtain ⟨d4, d5⟩ := hD
    obtain ⟨Ad, nd, cd, ed, -, -, -⟩ := (show SlI W (ρ (.tmp 6)) c.houses from d4.sl (fun _ => rfl)).form
    obtain ⟨Aw, nw, cw, ew, -, -, -⟩ := (show SlL W (ρ (.tmp 10)) c.sales from d5.sl (fun _ => rfl)).form
    rw [ed] at d4
    rw [ew] at d5
    have H4 := Lib.hid d4; have H5 := Lib.hid d5; clear d4 d5
    go_simp
    exact ⟨⟨hC, Ext.refl _⟩, ⟨_, _, rfl, H4.out, H5.out⟩⟩
  simp only [List.nil_append, List.cons_append]
  refine tame_end 12 rfl rfl (fun ρ W hC hr hF => ?_)
  obtain ⟨hrc, hrg, hrf, hrs⟩ := hr
  have h17 : TwinC c (w.heap.size + 2) (ρ (.tmp 11)) W := hF.2.2.2.2.2.2.2.2.1
  obtain ⟨dv, wv, e17, o1, o2⟩ := h17
  obtain ⟨Ad, nd, cd, rfl, -, -, -⟩ := (show SlI W dv c.houses from o1.sl (fun _ => rfl)).form
  obtain ⟨Aw, nw, cw, rfl, -, -, -⟩ := (show SlL W wv c.sales from o2.sl (fun _ => rfl)).form
  have O1 := Lib.hid o1; have O2 := Lib.hid o2; clear o1 o2 hF
  dsimp only [valC] at e17
  apply frame_to
  · go_simp
    exact rfl
  have HEW := Lib.hid (HE.out.trans hC)
  have HBW := Lib.hid (HB2.out.ext hC)
  have t0 := HBW.out.c2
  clear hC m0 m1 hrc hrg hrf hrs e17
  go_wp2
  refine ret_set2 HBW.out fun W' ⟨b0, b1⟩ hW => ?_
  refine bodyPost_ret (v := valC (.slice Ad nd cd) (.slice Aw nw cw)) (by simp [results, Tryd.results19, go_sem, b0, b1]) rfl ?_
  exact ⟨⟨_, rfl, ⟨_, _, rfl, own_mono (own_kept O1.out hW (by omega)) (by omega), own_mono (own_kept O2.out hW (by omega)) (by omega)⟩⟩, ext_grownP HEW.out hW (by omega)⟩
end Go.Proofs.YtafdbgielmlihaaDoor
