/- chain.with and chain.less: a chain with a sale more, without some. -/
import Derived.Test.YtafdbgielmlihaaDoorChIns
import Derived.Test.YtafdbgielmlihaaDoorTameK
namespace Go.Proofs.YtafdbgielmlihaaDoor
open Go.RowKit Go.Shelf Go.Lib
set_option maxRecDepth 100000
set_option linter.unusedSimpArgs false

theorem pos_lo : ∀ {l : List Sale} {n : Int} (k : Nat) (x : Sale), k < posL l n → l[k]? = some x → x.number < n
  | [], n, k, x, h, hx => by simp at hx
  | y :: l, n, k, x, h, hx => by
    unfold posL at h
    rw [List.takeWhile_cons] at h
    split at h
    · rename_i hy
      cases k with
      | zero => simp at hx; subst hx; simpa using hy
      | succ k => exact pos_lo k x (by unfold posL; simpa using h) (by simpa using hx)
    · simp at h
theorem pos_hi : ∀ {l : List Sale} {n : Int} (k : Nat) (x : Sale), (l.map (·.number)).Pairwise (· < ·) → posL l n ≤ k → l[k]? = some x → n ≤ x.number
  | [], n, k, x, _, h, hx => by simp at hx
  | y :: l, n, k, x, hp, h, hx => by
    rw [List.map_cons, List.pairwise_cons] at hp
    unfold posL at h
    rw [List.takeWhile_cons] at h
    split at h
    · cases k with
      | zero => simp at h
      | succ k => exact pos_hi k x hp.2 (by unfold posL; simpa using h) (by simpa using hx)
    · rename_i hy
      have hy' : n ≤ y.number := by simpa using hy
      cases k with
      | zero => simp at hx; subst hx; exact hy'
      | succ k =>
        have hm : x ∈ l := List.mem_of_getElem? (by simpa using hx)
        have := hp.1 x.number (List.mem_map.2 ⟨x, hm, rfl⟩)
        omega
theorem cmpI_neg {a b : Int} : cmpI a b < 0 ↔ a < b := by unfold cmpI; split <;> (try split) <;> omega

/-- A slice of one fresh sale. -/
def OneL (x : Sale) (v : Value) (W : World) : Prop := ∃ vb, v = .slice (some ⟨vb, 0, none⟩) 1 1 ∧ Blk W vb 68 #[.int .i64 x.number, .int .i64 x.seller, .int .i64 x.buyer, .int .i64 x.bales, .int .i64 x.price]
theorem OneL.ext {x : Sale} {v : Value} {W W' : World} (h : OneL x v W) (e : Ext W W') : OneL x v W' := by obtain ⟨vb, h1, h2⟩ := h; exact ⟨vb, h1, h2.ext e⟩
set_option maxHeartbeats 4000000 in
theorem with_any (c : Chn) (x : Sale) (hv sv : Value) (w : World) (hh : SlI w hv c.houses) (hs : SlL w sv c.sales) (hlh : c.houses.length ≤ 1000) (hls : c.sales.length ≤ 900) (hr : (c.sales.map (·.number)).Pairwise (· < ·)) :
    Calls Tryd.prog 100 #[valC hv sv, valL x] w fun e w' => (∃ v, e = .returned v ∧ TwinC (withC c x) w.heap.size v w') ∧ Ext w w' := by
  have HH := Lib.hid hh; have HS := Lib.hid hs; have HL := Lib.hid hls; have HLH := Lib.hid hlh
  have HP := Lib.hid hr
  obtain ⟨A, n, cp, rfl, hn, hlc, hcm⟩ := hh.form
  obtain ⟨A2, n2, cp2, rfl, hn2, hlc2, hcm2⟩ := hs.form
  clear hh hs hlh hls hr
  dsimp only [valL]
  go_enter Tryd.func100, Tryd.ntmps100
  go_wp2_with fail
  generalize hw3 : ((w.alloc (.cells #[.slice A n cp, .slice A2 n2 cp2] 25)).alloc (.cells #[.int .i64 x.number, .int .i64 x.seller, .int .i64 x.buyer, .int .i64 x.bales, .int .i64 x.price] 68)).alloc (.cells #[.slice none 0 0, .slice none 0 0] 25) = w3
  have HE3 := Lib.hid (show Ext w w3 from hw3 ▸ ((Ext.al _ _).alloc _).alloc _)
  have HZ3 := Lib.hid (show w3.heap.size = w.heap.size + 3 by rw [← hw3]; simp)
  have HB0 := Lib.hid (show Blk w3 w.heap.size 25 #[.slice A n cp, .slice A2 n2 cp2] from hw3 ▸ ((Blk.new _ _ _).alloc _).alloc _)
  have HB1 := Lib.hid (show Blk w3 (w.heap.size + 1) 68 #[.int .i64 x.number, .int .i64 x.seller, .int .i64 x.buyer, .int .i64 x.bales, .int .i64 x.price] from hw3 ▸ (Blk.at_ (by simp)).alloc _)
  have HB2 := Lib.hid (show Blk w3 (w.heap.size + 1 + 1) 25 #[.slice none 0 0, .slice none 0 0] from hw3 ▸ Blk.at_ (by simp))
  clear hw3
  refine (bin_any 118 (enters_of Tryd.func118 (by kernel_rfl) rfl) (fun y => cmpI y.number x.number) x.number c.sales _ (posL c.sales x.number) _ (HS.out.ext HE3.out) (by have := HL.out; omega) (posL_le _ _) (fun k y h1 h2 => cmpI_neg.2 (pos_lo k y h1 h2)) (fun k y h1 h2 => by
    have := pos_hi k y HP.out h1 h2
    have h3 : ¬ cmpI y.number x.number < 0 := by rw [cmpI_neg]; omega
    show 0 ≤ cmpI y.number x.number
    omega) (fun W y hW => f118_any y x.number W)).mono ?_
  rintro e w4 ⟨⟨bb, rfl⟩, hE⟩
  have HE4 := Lib.hid (HE3.out.trans hE)
  have HC0 := Lib.hid (HB0.out.ext hE); have HC1 := Lib.hid (HB1.out.ext hE); have HC2 := Lib.hid (HB2.out.ext hE)
  have HZ4 := Lib.hid (show w.heap.size + 3 ≤ w4.heap.size by have := hE.size; have := HZ3.out; omega)
  clear hE HB0 HB1 HB2 HZ3 HE3
  have hp := posL_le c.sales x.number
  have HPL := Lib.hid hp
  generalize hpe : posL c.sales x.number = p at *
  have HPE := Lib.hid hpe
  clear hpe hp
  have m0 := fun W (h : Ext w4 W) => (HC0.out.ext h).c2.1
  have m1 := fun W (h : Ext w4 W) => (HC0.out.ext h).c2.2.1
  have d0 := fun W (h : Ext w4 W) => (HC1.out.ext h).c5.1
  have d1 := fun W (h : Ext w4 W) => (HC1.out.ext h).c5.2.1
  have d2 := fun W (h : Ext w4 W) => (HC1.out.ext h).c5.2.2.1
  have d3 := fun W (h : Ext w4 W) => (HC1.out.ext h).c5.2.2.2.1
  have d4 := fun W (h : Ext w4 W) => (HC1.out.ext h).c5.2.2.2.2.1
  go_wp2
  refine wp_region_tame_cutk (fun W => Ext w4 W) (fun W W' => Ext W W') (by kernel_rfl) 26 rfl 9 (by decide +kernel) (by decide +kernel) (by decide +kernel) (Ext.refl _).drew ?_
  simp only [List.take, List.drop]
  repeat (apply tame_q rfl; (intro ρ W hC hr hD; (obtain ⟨hrc, hrg, hrf, hrs⟩ := hr); (simp [go_sem] at hD); go_simp; first | exact ⟨⟨hC, Ext.refl _⟩, rfl⟩ | exact ⟨⟨hC, RS.refl _⟩, rfl⟩ | exact rfl); simp only [List.nil_append, List.cons_append])
  apply tame_v rfl (fun v W => Own encI 3 1 W (w.heap.size + 3) v c.houses) (fun v W W' _ hE h => h.ext hE)
  · intro ρ W hC hr hD
    obtain ⟨hrc, hrg, hrf, hrs⟩ := hr
    simp [go_sem] at hD
    go_simp
    refine (cloneI_any _ c.houses _ (HH.out.ext (HE4.out.trans hC)) HLH.out).mono ?_
    rintro e w' ⟨⟨v', rfl, ho⟩, hE⟩
    exact ⟨_, rfl, ⟨hC.trans hE, hE⟩, ho.mono (by have := hC.size; have := HZ4.out; omega)⟩
  simp only [List.nil_append, List.cons_append]
  repeat (apply tame_q rfl; (intro ρ W hC hr hD; (obtain ⟨hrc, hrg, hrf, hrs⟩ := hr); (simp [go_sem] at hD); go_simp; first | exact ⟨⟨hC, Ext.refl _⟩, rfl⟩ | exact ⟨⟨hC, RS.refl _⟩, rfl⟩ | exact rfl); simp only [List.nil_append, List.cons_append])
  apply tame_v rfl (fun v W => Own encL 68 5 W (w.heap.size + 3) v c.sales) (fun v W W' _ hE h => h.ext hE)
  · intro ρ W hC hr hD
    obtain ⟨hrc, hrg, hrf, hrs⟩ := hr
    simp [go_sem] at hD
    go_simp
    refine (cloneL_any _ c.sales _ (HS.out.ext (HE4.out.trans hC)) (by have := HL.out; omega)).mono ?_
    rintro e w' ⟨⟨v', rfl, ho⟩, hE⟩
    exact ⟨_, rfl, ⟨hC.trans hE, hE⟩, ho.mono (by have := hC.size; have := HZ4.out; omega)⟩
  simp only [List.nil_append, List.cons_append]
  repeat (apply tame_q rfl; (intro ρ W hC hr hD; (obtain ⟨hrc, hrg, hrf, hrs⟩ := hr); (simp [go_sem] at hD); go_simp; first | exact ⟨⟨hC, Ext.refl _⟩, rfl⟩ | exact ⟨⟨hC, RS.refl _⟩, rfl⟩ | exact rfl); simp only [List.nil_append, List.cons_append])
  apply tame_v rfl (OneL x) (fun v W W' _ hE h => h.ext hE)
  · intro ρ W hC hr hD
    obtain ⟨hrc, hrg, hrf, hrs⟩ := hr
    simp [go_sem] at hD
    go_simp
    exact ⟨⟨hC.alloc _, Ext.al _ _⟩, ⟨_, rfl, Blk.new _ _ _⟩⟩
  simp only [List.nil_append, List.cons_append]
  refine tame_end 26 rfl rfl (fun ρ W hC hr hF => ?_)
  obtain ⟨hrc, hrg, hrf, hrs⟩ := hr
  simp [go_sem] at hF
  obtain ⟨f15, f16, f17, f18, f19, f20, f21, f22, vb, f23, hBx⟩ := hF
  obtain ⟨Ad, nd, cd, e17, -, -, -⟩ := (show SlI W (ρ (.tmp 17)) c.houses from f17.sl (fun _ => rfl)).form
  obtain ⟨Aw, nw, cw, e20, -, -, -⟩ := (show SlL W (ρ (.tmp 20)) c.sales from f20.sl (fun _ => rfl)).form
  rw [e17] at f17
  rw [e20] at f20
  apply frame_to
  · go_simp
    exact rfl
  have O1 := Lib.hid f17; have O2 := Lib.hid f20; have HBX := Lib.hid hBx
  have HEW := Lib.hid (HE4.out.trans hC)
  have HBW := Lib.hid (HC2.out.ext hC)
  have HZW := Lib.hid (show w.heap.size + 3 ≤ W.heap.size by have := hC.size; have := HZ4.out; omega)
  clear f15 f16 f17 f18 f19 f20 f21 f22 f23 e17 e20 hBx hC hrc hrg hrf hrs m0 m1 d0 d1 d2 d3 d4 HC0 HC1 HC2
  go_wp2_with fail
  refine (insert_any c.sales x p vb _ (w.heap.size + 3) W HPL.out (by have := HL.out; omega) O2.out HZW.out HBX.out).mono ?_
  rintro e w5 ⟨⟨v', rfl, ho⟩, hg⟩
  have O3 := Lib.hid (own_apart O1.out O2.out (by decide) hg)
  obtain ⟨Ai, ni, ci, rfl, -, -, -⟩ := (show SlL w5 v' _ from ho.sl (fun _ => rfl)).form
  have O4 := Lib.hid (show Own encL 68 5 w5 (w.heap.size + 3) (.slice Ai ni ci) (withC c x).sales from by unfold withC; rw [HPE.out]; exact ho)
  have HBL := Lib.hid (own_below O2.out HZW.out hg)
  have HB5 := Lib.hid (HBW.out.below HBL.out (by omega))
  have HE5 := Lib.hid (show Ext w w5 from Below.trans HEW.out (HBL.out.mono (by omega)))
  clear hg ho HEW HBW HBX O1 O2 HBL
  have t0 := HB5.out.c2
  go_wp2
  refine ret_set2 HB5.out fun W' ⟨b0, b1⟩ hW => ?_
  refine bodyPost_ret (v := valC (.slice Ad nd cd) (.slice Ai ni ci)) (by simp [results, Tryd.results100, go_sem, b0, b1]) rfl ?_
  exact ⟨⟨_, rfl, ⟨_, _, rfl, own_mono (own_kept O3.out hW (by omega)) (by omega), own_mono (own_kept O4.out hW (by omega)) (by omega)⟩⟩, ext_grownP HE5.out hW (by omega)⟩

set_option maxHeartbeats 4000000 in
theorem less_any (c : Chn) (p : Sale → Bool) (tf : FuncId) (tlb : Array Value) (et : ∀ args w, (callFunc tf args).run Tryd.prog w = .ok (.enter tf args) w) (hv sv : Value) (w : World) (hh : SlI w hv c.houses) (hs : SlL w sv c.sales) (hlh : c.houses.length ≤ 1000) (hls : c.sales.length ≤ 1000)
    (hp : ∀ W y, Ext w W → Calls Tryd.prog tf (#[valL y] ++ tlb) W fun e W' => e = .returned (.bool (p y)) ∧ Ext W W') :
    Calls Tryd.prog 102 #[valC hv sv, .func (.func tf) #[] tlb] w fun e w' => (∃ v, e = .returned v ∧ TwinC (lessC c p) w.heap.size v w') ∧ Ext w w' := by
  have HH := Lib.hid hh; have HS := Lib.hid hs; have HL := Lib.hid hls; have HLH := Lib.hid hlh
  have HP := Lib.hid hp
  obtain ⟨A, n, cp, rfl, hn, hlc, hcm⟩ := hh.form
  obtain ⟨A2, n2, cp2, rfl, hn2, hlc2, hcm2⟩ := hs.form
  clear hh hs hlh hls hp
  go_enter Tryd.func102, Tryd.ntmps102
  go_wp2
  generalize hw4 : ((w.alloc (.cells #[.slice A n cp, .slice A2 n2 cp2] 25)).alloc (.cells #[.slice none 0 0, .slice none 0 0] 25)) = w4
  have HE4 := Lib.hid (show Ext w w4 from hw4 ▸ (Ext.al _ _).alloc _)
  have HZ4 := Lib.hid (show w4.heap.size = w.heap.size + 2 by rw [← hw4]; simp)
  have HC0 := Lib.hid (show Blk w4 w.heap.size 25 #[.slice A n cp, .slice A2 n2 cp2] from hw4 ▸ (Blk.new _ _ _).alloc _)
  have HC2 := Lib.hid (show Blk w4 (w.heap.size + 1) 25 #[.slice none 0 0, .slice none 0 0] from hw4 ▸ Blk.at_ (by simp))
  clear hw4
  have m0 := fun W (h : Ext w4 W) => (HC0.out.ext h).c2.1
  have m1 := fun W (h : Ext w4 W) => (HC0.out.ext h).c2.2.1
  refine wp_region_tame_cutk (fun W => Ext w4 W) (fun W W' => Ext W W') (by kernel_rfl) 14 rfl 7 (by decide +kernel) (by decide +kernel) (by decide +kernel) (Ext.refl _).drew ?_
  simp only [List.take, List.drop]
  repeat (apply tame_q rfl; (intro ρ W hC hr hD; (obtain ⟨hrc, hrg, hrf, hrs⟩ := hr); (simp [go_sem] at hD); go_simp; first | exact ⟨⟨hC, Ext.refl _⟩, rfl⟩ | exact ⟨⟨hC, RS.refl _⟩, rfl⟩ | exact rfl); simp only [List.nil_append, List.cons_append])
  apply tame_v rfl (fun v W => Own encI 3 1 W (w.heap.size + 2) v c.houses) (fun v W W' _ hE h => h.ext hE)
  · intro ρ W hC hr hD
    obtain ⟨hrc, hrg, hrf, hrs⟩ := hr
    simp [go_sem] at hD
    go_simp
    refine (cloneI_any _ c.houses _ (HH.out.ext (HE4.out.trans hC)) HLH.out).mono ?_
    rintro e w' ⟨⟨v', rfl, ho⟩, hE⟩
    exact ⟨_, rfl, ⟨hC.trans hE, hE⟩, ho.mono (by have := hC.size; have := HZ4.out; omega)⟩
  simp only [List.nil_append, List.cons_append]
  repeat (apply tame_q rfl; (intro ρ W hC hr hD; (obtain ⟨hrc, hrg, hrf, hrs⟩ := hr); (simp [go_sem] at hD); go_simp; first | exact ⟨⟨hC, Ext.refl _⟩, rfl⟩ | exact ⟨⟨hC, RS.refl _⟩, rfl⟩ | exact rfl); simp only [List.nil_append, List.cons_append])
  apply tame_v rfl (fun v W => Own encL 68 5 W (w.heap.size + 2) v c.sales) (fun v W W' _ hE h => h.ext hE)
  · intro ρ W hC hr hD
    obtain ⟨hrc, hrg, hrf, hrs⟩ := hr
    simp [go_sem] at hD
    go_simp
    refine (cloneL_any _ c.sales _ (HS.out.ext (HE4.out.trans hC)) HL.out).mono ?_
    rintro e w' ⟨⟨v', rfl, ho⟩, hE⟩
    exact ⟨_, rfl, ⟨hC.trans hE, hE⟩, ho.mono (by have := hC.size; have := HZ4.out; omega)⟩
  simp only [List.nil_append, List.cons_append]
  repeat (apply tame_q rfl; (intro ρ W hC hr hD; (obtain ⟨hrc, hrg, hrf, hrs⟩ := hr); (simp [go_sem] at hD); go_simp; first | exact ⟨⟨hC, Ext.refl _⟩, rfl⟩ | exact ⟨⟨hC, RS.refl _⟩, rfl⟩ | exact rfl); simp only [List.nil_append, List.cons_append])
  refine tame_end 14 rfl rfl (fun ρ W hC hr hF => ?_)
  obtain ⟨hrc, hrg, hrf, hrs⟩ := hr
  simp [go_sem] at hF
  obtain ⟨f15, f16, f17, f18, f19, f20, f21⟩ := hF
  obtain ⟨Ad, nd, cd, e17, -, -, -⟩ := (show SlI W (ρ (.tmp 7)) c.houses from f17.sl (fun _ => rfl)).form
  obtain ⟨Aw, nw, cw, e20, -, -, -⟩ := (show SlL W (ρ (.tmp 10)) c.sales from f20.sl (fun _ => rfl)).form
  rw [e17] at f17
  rw [e20] at f20
  apply frame_to
  · go_simp
    exact rfl
  have O1 := Lib.hid f17; have O2 := Lib.hid f20
  have HEW := Lib.hid (HE4.out.trans hC)
  have HBW := Lib.hid (HC2.out.ext hC)
  have HZW := Lib.hid (show w.heap.size + 2 ≤ W.heap.size by have := hC.size; have := HZ4.out; omega)
  clear f15 f16 f17 f18 f19 f20 f21 e17 e20 hC hrc hrg hrf hrs m0 m1 HC0 HC2
  go_wp2_with fail
  refine (del_any tf tlb et p c.sales _ (w.heap.size + 2) W HZW.out O2.out (fun W' y hW => HP.out W' y (Below.trans HEW.out (hW.mono (by omega))))).mono ?_
  rintro e w5 ⟨v', rfl, ho, hg⟩
  have O3 := Lib.hid (own_apart O1.out O2.out (by decide) hg)
  obtain ⟨Ai, ni, ci, rfl, -, -, -⟩ := (show SlL w5 v' _ from ho.sl (fun _ => rfl)).form
  have O4 := Lib.hid (show Own encL 68 5 w5 (w.heap.size + 2) (.slice Ai ni ci) (lessC c p).sales from ho)
  have HBL := Lib.hid (own_below O2.out HZW.out hg)
  have HB5 := Lib.hid (HBW.out.below HBL.out (by omega))
  have HE5 := Lib.hid (show Ext w w5 from Below.trans HEW.out (HBL.out.mono (by omega)))
  clear hg ho HEW HBW O1 O2 HBL
  have t0 := HB5.out.c2
  go_wp2
  refine ret_set2 HB5.out fun W' ⟨b0, b1⟩ hW => ?_
  refine bodyPost_ret (v := valC (.slice Ad nd cd) (.slice Ai ni ci)) (by simp [results, Tryd.results102, go_sem, b0, b1]) rfl ?_
  exact ⟨⟨_, rfl, ⟨_, _, rfl, own_mono (own_kept O3.out hW (by omega)) (by omega), own_mono (own_kept O4.out hW (by omega)) (by omega)⟩⟩, ext_grownP HE5.out hW (by omega)⟩
end Go.Proofs.YtafdbgielmlihaaDoor
