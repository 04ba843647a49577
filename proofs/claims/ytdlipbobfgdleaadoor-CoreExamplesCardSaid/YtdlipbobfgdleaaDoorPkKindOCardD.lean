/- The reference's Put and Weighed. -/
import Derived.Test.YtdlipbobfgdleaaDoorPkKindOCardC
import Derived.Test.YtdlipbobfgdleaaDoorPkTruthCardP
namespace Go.Proofs.YtdlipbobfgdleaaDoor
open Go.RowKit Go.Shelf Go.Lib
set_option maxRecDepth 100000
set_option linter.unusedSimpArgs false

theorem Sl.head {α : Type} {enc : α → List Value} {sz : Nat} {W : World} {A : Option Addr} {n c k : Nat} {l : List α} (h : Sl enc sz W (.slice A n c) l) (hk : k ≤ n) : Sl enc sz W (.slice A k c) (l.take k) := by
  obtain ⟨A', c', hv, hlc, hcm, hx⟩ := h
  injection hv with e1 e2 e3
  subst e1 e2 e3
  refine ⟨A, c, by rw [List.length_take, Nat.min_eq_left hk], by simp; omega, hcm, fun h0 => ?_⟩
  obtain ⟨b, off, hA, hb, hc⟩ := hx (by simp at h0; omega)
  refine ⟨b, off, hA, hb, fun i x hi => hc i x ?_⟩
  rw [List.getElem?_take] at hi
  split at hi
  · exact hi
  · cases hi
theorem Sl.tail {α : Type} {enc : α → List Value} {sz : Nat} {W : World} {A : Option Addr} {n c k : Nat} {l : List α} (h : Sl enc sz W (.slice A n c) l) (hk : k ≤ n) : Sl enc sz W (sliced A k n c sz) (l.drop k) := by
  obtain ⟨A', c', hv, hlc, hcm, hx⟩ := h
  injection hv with e1 e2 e3
  subst e1 e2 e3
  refine ⟨(if c = k then A else A.map (·.add (k * sz))), c - k, by unfold sliced; rw [List.length_drop], by simp; omega, by omega, fun h0 => ?_⟩
  have h0' : k < l.length := by simp at h0; omega
  obtain ⟨b, off, rfl, hb, hc⟩ := hx (by omega)
  refine ⟨b, off + k * sz, by rw [if_neg (by omega)]; simp [Addr.add], hb, fun i x hi j w hw => ?_⟩
  rw [List.getElem?_drop] at hi
  have := hc (k + i) x hi j w hw
  rw [Nat.add_mul, ← Nat.add_assoc] at this
  exact this
theorem Sl.single {α : Type} {enc : α → List Value} {sz : Nat} {W : World} {b c : Nat} {e : TypeId} {x : α} (h : Blk W b e (enc x).toArray) (h1 : 1 ≤ c) (hc : c ≤ maxLen) : Sl enc sz W (.slice (some ⟨b, 0, none⟩) 1 c) [x] := by
  refine ⟨_, c, rfl, h1, hc, fun _ => ⟨b, 0, rfl, h.lt, fun k y hk j w hw => ?_⟩⟩
  cases k with
  | zero =>
    simp at hk
    subst hk
    have := h.cell j
    rw [show 0 + 0 * sz + j = j by omega, this]
    simpa using hw
  | succ k => simp at hk
def OneF {α : Type} (enc : α → List Value) (e : TypeId) (x : α) (v : Value) (W : World) : Prop := ∃ g, v = .slice (some ⟨g, 0, none⟩) 1 1 ∧ Blk W g e (enc x).toArray
theorem own_off {α : Type} {enc : α → List Value} {sz base g : Nat} {e t : TypeId} {cs : Array Value} {w w' : World} {v : Value} {l : List α} (h : Own enc e sz w base v l) (hB : Blk w g t cs) (hne : e ≠ t) (hG : w.grownBy w' (some g)) : Own enc e sz w' base v l := by
  refine ⟨h.1, ?_⟩
  rcases h.2 with h2 | ⟨g2, cap, cur, e1, hb, hg, h5⟩
  · exact .inl h2
  · refine .inr ⟨g2, cap, cur, e1, hb, (hG.block g2 ?_ ?_).trans hg, h5⟩
    · obtain ⟨h6, _⟩ := Array.getElem?_eq_some_iff.1 hg
      exact h6
    · intro e'
      injection e' with e'
      subst e'
      unfold Blk at hB
      rw [hg] at hB
      injection hB with hB
      injection hB with _ e2 _
      exact hne e2
--DD
def spotD (l : List Draw) (x : Draw) : Nat := (l.takeWhile fun y => decide (y.number < x.number)).length
def insD (l : List Draw) (x : Draw) : List Draw := l.take (spotD l x) ++ [x] ++ l.drop (spotD l x)
def insB (b : Bale) (x : Draw) : Bale := ⟨b.id, b.layers, b.dry, insD b.draws x, b.weighs⟩
def refPutE (b : Bale) (x : Draw) : Int := if valid b then (if b.draws.length = 10 then 9 else if valid (insB b x) then 0 else 33) else 30
def refPutB (b : Bale) (x : Draw) : Bale := if refPutE b x = 0 then insB b x else noB
theorem spotD_step {l : List Draw} {q : Nat} {x y : Draw} (hy : l[q]? = some y) : spotD (l.drop q) x = if y.number < x.number then spotD (l.drop (q + 1)) x + 1 else 0 := by
  rw [drop_at hy]
  unfold spotD
  rw [List.takeWhile_cons]
  by_cases h : y.number < x.number <;> simp [h]

set_option maxHeartbeats 4000000 in
theorem f49_any (b : Bale) (x : Draw) (dv wv : Value) (w : World) (hd : SlD w dv b.draws) (hw : SlW w wv b.weighs) :
    Calls Tryd.prog 49 #[valB b dv wv, valD x] w fun e w' => (∃ v, e = .returned (.tuple #[v, .int .i64 (refPutE b x)]) ∧ TwinV (refPutB b x) w.heap.size v w') ∧ Ext w w' := by
  have HD := Lib.hid hd
  have HW := Lib.hid hw
  obtain ⟨A, n, cp, rfl, hn, hlc, hcm⟩ := hd.form
  obtain ⟨A2, n2, cp2, rfl, hn2, hlc2, hcm2⟩ := hw.form
  clear hd hw
  dsimp only [valD]
  go_enter Tryd.func49, Tryd.ntmps49
  go_wp2_with fail
  generalize hw3 : (((w.alloc (.cells #[.int .i64 b.id, .int .i64 b.layers, .int .i64 b.dry.lo, .int .i64 b.dry.hi, .slice A n cp, .slice A2 n2 cp2] 27)).alloc (.cells #[.int .i64 x.number, .int .i64 x.layer, .int .i64 x.grade.lo, .int .i64 x.grade.hi] 63)).alloc (.cells #[.int .i64 0, .int .i64 0, .int .i64 0, .int .i64 0, .slice none 0 0, .slice none 0 0] 27)) = w3
  have HE3 := Lib.hid (show Ext w w3 from hw3 ▸ ((Ext.al _ _).alloc _).alloc _)
  have HZ3 := Lib.hid (show w3.heap.size = w.heap.size + 3 by rw [← hw3]; simp)
  have HB0 := Lib.hid (show Blk w3 w.heap.size 27 #[.int .i64 b.id, .int .i64 b.layers, .int .i64 b.dry.lo, .int .i64 b.dry.hi, .slice A n cp, .slice A2 n2 cp2] from hw3 ▸ ((Blk.new _ _ _).alloc _).alloc _)
  have HB1 := Lib.hid (show Blk w3 (w.heap.size + 1) 63 #[.int .i64 x.number, .int .i64 x.layer, .int .i64 x.grade.lo, .int .i64 x.grade.hi] from hw3 ▸ (Blk.at_ (by simp)).alloc _)
  have HB2 := Lib.hid (show Blk w3 (w.heap.size + 1 + 1) 27 #[.int .i64 0, .int .i64 0, .int .i64 0, .int .i64 0, .slice none 0 0, .slice none 0 0] from hw3 ▸ Blk.at_ (by simp))
  clear hw3
  refine (refBale_v b _ _ _ (HD.out.ext HE3.out) (HW.out.ext HE3.out)).mono ?_
  rintro e w4 ⟨rfl, hE4⟩
  have HE4 := Lib.hid (HE3.out.trans hE4)
  have HC0 := Lib.hid (HB0.out.ext hE4); have HC1 := Lib.hid (HB1.out.ext hE4); have HC2 := Lib.hid (HB2.out.ext hE4)
  have hz4 : w3.heap.size ≤ w4.heap.size := hE4.size
  have t0 := HC2.out.cell 0
  have t1 := HC2.out.cell 1
  have t2 := HC2.out.cell 2
  have t3 := HC2.out.cell 3
  have t4 := HC2.out.cell 4
  have t5 := HC2.out.cell 5
  have tl := HC2.out.lt
  have tf := HC2.out.frozen
  have x0 := HC0.out.cell 0
  have x1 := HC0.out.cell 1
  have x2 := HC0.out.cell 2
  have x3 := HC0.out.cell 3
  have x4 := HC0.out.cell 4
  have x5 := HC0.out.cell 5
  have xl := HC0.out.lt
  simp at t0 t1 t2 t3 t4 t5 x0 x1 x2 x3 x4 x5
  clear hE4 HB0 HB1 HB2
  cases hv : valid b with
  | false =>
    have HV := Lib.hid (show refPutE b x = 30 by unfold refPutE; rw [hv]; rfl)
    have HVB := Lib.hid (show refPutB b x = noB by unfold refPutB; rw [HV.out]; rfl)
    clear hv
    go_wp2
    refine ret_set6 HC2.out fun W' ⟨b0, b1, b2, b3, b4, b5⟩ hW => ?_
    refine bodyPost_ret (v := .tuple #[.agg #[.int .i64 0, .int .i64 0, .int .i64 0, .int .i64 0, .slice none 0 0, .slice none 0 0], .int .i64 30]) (by simp [results, Tryd.results49, go_sem, b0, b1, b2, b3, b4, b5]) rfl ?_
    exact ⟨⟨_, by rw [HV.out], by rw [HVB.out]; exact TwinV.no _ _⟩, ext_grown HE4.out hW (by omega)⟩
  | true =>
    have HV := Lib.hid hv
    have HBD := Lib.hid (valid_bds hv)
    clear hv
    by_cases h10 : n = 10
    · have HVE := Lib.hid (show refPutE b x = 9 by unfold refPutE; rw [HV.out, ← hn.out, h10]; rfl)
      have HVB := Lib.hid (show refPutB b x = noB by unfold refPutB; rw [HVE.out]; rfl)
      subst h10
      go_wp2
      refine ret_set6 HC2.out fun W' ⟨b0, b1, b2, b3, b4, b5⟩ hW => ?_
      refine bodyPost_ret (v := .tuple #[.agg #[.int .i64 0, .int .i64 0, .int .i64 0, .int .i64 0, .slice none 0 0, .slice none 0 0], .int .i64 9]) (by simp [results, Tryd.results49, go_sem, b0, b1, b2, b3, b4, b5]) rfl ?_
      exact ⟨⟨_, by rw [HVE.out], by rw [HVB.out]; exact TwinV.no _ _⟩, ext_grown HE4.out hW (by omega)⟩
    · have h10z : ¬ ((n : Int) = 10) := by omega
      have h10b : ((n : Int) == 10) = false := by simpa using h10z
      have HZ4 := Lib.hid (show w.heap.size + 3 ≤ w4.heap.size by have := HZ3.out; omega)
      have HLN := Lib.hid (show b.draws.length = n ∧ n ≤ 10 by have := HBD.out.nd; have := hn.out; omega)
      clear t0 t1 t2 t3 t4 t5 tl tf x0 x1 x2 x3 x5 xl hz4
      go_wp2
      clear x4
      go_loopg [6] n (fun gg s6 wr => ∃ q : Nat, q ≤ n ∧ n - q ≤ gg ∧ s6 = .int .i64 (q : Int) ∧ Aside (spotD b.draws x = q + spotD (b.draws.drop q) x) ∧ Aside (Ext w4 wr))
      case atStart => exact ⟨0, by omega, by omega, rfl, (by show spotD b.draws x = 0 + spotD (b.draws.drop 0) x; simp), Ext.refl _⟩
      case round =>
        obtain ⟨q, hqn, hgq, rfl, AT, EX⟩ := hrel
        have HD0 := Lib.hid (HC0.out.ext EX.out); have HD1 := Lib.hid (HC1.out.ext EX.out)
        have m4 := fun W (h : Ext wr W) => (show W.cell? ⟨w.heap.size, 4, none⟩ = some (.slice A n cp) from (HD0.out.ext h).cell 4)
        have n0 := fun W (h : Ext wr W) => (show W.cell? ⟨w.heap.size + 1, 0, none⟩ = some (.int .i64 x.number) from (HD1.out.ext h).cell 0)
        by_cases hlt : q < n
        · have hlz : (q : Int) < (n : Int) := by omega
          have hsl : SlD wr (.slice A n cp) b.draws := HD.out.ext (HE4.out.trans EX.out)
          obtain ⟨bb, off, y, rfl, hy, -, hyc⟩ := hsl.at_ hlt
          have cy := fun W (h : Ext wr W) => SlD.cells hyc h
          have y0 := fun W (h : Ext wr W) => (cy W h).1
          have HST := Lib.hid (spotD_step (x := x) hy)
          clear cy hyc hsl hy
          by_cases hxy : y.number < x.number
          · have HAT := Lib.hid (show spotD b.draws x = (q + 1) + spotD (b.draws.drop (q + 1)) x by have h1 := HST.out; rw [if_pos hxy] at h1; have := AT.out; omega)
            go_wp2_with fail
            refine wp_region_tame (fun W => Ext wr W) (fun W W' => Ext W W') (by kernel_rfl) 57 rfl (by decide +kernel) (Ext.refl _).drew ?_
            repeat (apply tame_q rfl; (intro ρ W hC hr hD; (obtain ⟨hrc, hrg, hrf, hrs⟩ := hr); (simp [go_sem] at hD); go_simp; first | exact ⟨⟨hC, Ext.refl _⟩, rfl⟩ | exact ⟨⟨hC, RS.refl _⟩, rfl⟩ | exact rfl); simp only [List.nil_append, List.cons_append])
            refine tame_end 57 rfl rfl (fun ρ W hC hr hF => ?_)
            obtain ⟨hrc, hrg, hrf, hrs⟩ := hr
            simp [go_sem] at hF
            apply frame_to
            · go_simp
              exact rfl
            have HEX := Lib.hid (EX.out.trans hC)
            clear hF hrs hrc hrg hrf hC m4 n0 y0
            go_wp2
            go_roundg (n - (q + 1))
            case measure => omega
            case rel => exact ⟨q + 1, by omega, by omega, by simp, HAT.out, HEX.out⟩
          · have HAT := Lib.hid (show q = spotD b.draws x by have h1 := HST.out; rw [if_neg hxy] at h1; have := AT.out; omega)
            have hxd : decide (y.number < x.number) = false := by simpa using hxy
            go_wp2_with fail
            refine wp_region_tame (fun W => Ext wr W) (fun W W' => Ext W W') (by kernel_rfl) 57 rfl (by decide +kernel) (Ext.refl _).drew ?_
            repeat (apply tame_q rfl; (intro ρ W hC hr hD; (obtain ⟨hrc, hrg, hrf, hrs⟩ := hr); (simp [go_sem] at hD); go_simp; first | exact ⟨⟨hC, Ext.refl _⟩, rfl⟩ | exact ⟨⟨hC, RS.refl _⟩, rfl⟩ | exact rfl); simp only [List.nil_append, List.cons_append])
            refine tame_end 57 rfl rfl (fun ρ W hC hr hF => ?_)
            obtain ⟨hrc, hrg, hrf, hrs⟩ := hr
            simp [go_sem] at hF
            apply frame_to
            · go_simp
              exact rfl
            have HEX := Lib.hid (EX.out.trans hC)
            clear hF hrs hrc hrg hrf hC m4 n0 y0 hxd hxy
            clear HST HD0 HD1 AT EX
--T1
            have HEW := Lib.hid (HE4.out.trans HEX.out)
            have HG0 := Lib.hid (HC0.out.ext HEX.out)
            have x0 := HG0.out.cell 0
            have x1 := HG0.out.cell 1
            have x2 := HG0.out.cell 2
            have x3 := HG0.out.cell 3
            have x4 := HG0.out.cell 4
            have x5 := HG0.out.cell 5
            have xl := HG0.out.lt
            simp at x0 x1 x2 x3 x4 x5
            go_wp2_with fail
            refine (twin_any b _ _ _ (HD.out.ext HEW.out) (HW.out.ext HEW.out) (by have := HLN.out; omega) (by have := HBD.out.nw; omega)).mono ?_
            rintro e w5 ⟨⟨v, rfl, dv, wv, rfl, o1, o2⟩, hE5⟩
            obtain ⟨Ad, nd, cd, rfl, -, -, -⟩ := (show SlD w5 dv b.draws from o1.sl (fun _ => rfl)).form
            obtain ⟨Aw, nw, cw, rfl, -, -, -⟩ := (show SlW w5 wv b.weighs from o2.sl (fun _ => rfl)).form
            have O1 := Lib.hid o1; have O2 := Lib.hid o2; have HE5 := Lib.hid (HEX.out.trans hE5)
            have HH0 := Lib.hid (HG0.out.ext hE5)
            have hs5 := hE5.size
            have hsW := HEX.out.size
            have HSW := Lib.hid (show w4.heap.size ≤ W.heap.size ∧ W.heap.size ≤ w5.heap.size by omega)
            clear o1 o2 hE5 HG0 x0 x1 x2 x3 x4 x5 xl hs5 hsW
            have x0 := HH0.out.cell 0
            have xl := HH0.out.lt
            dsimp only [valB]
            go_wp2_with fail
            generalize hw6 : w5.alloc (.cells #[.int .i64 b.id, .int .i64 b.layers, .int .i64 b.dry.lo, .int .i64 b.dry.hi, .slice Ad nd cd, .slice Aw nw cw] 27) = w6
            have HE6 := Lib.hid (show Ext w w6 from hw6 ▸ ((HE4.out.trans HE5.out).alloc _))
            have HK0 := Lib.hid (show Blk w6 w.heap.size 27 _ from hw6 ▸ HH0.out.alloc _)
            have HK1 := Lib.hid (show Blk w6 (w.heap.size + 1) 63 _ from hw6 ▸ (HC1.out.ext HE5.out).alloc _)
            have HK2 := Lib.hid (show Blk w6 (w.heap.size + 1 + 1) 27 _ from hw6 ▸ (HC2.out.ext HE5.out).alloc _)
            have HK7 := Lib.hid (show Blk w6 w5.heap.size 27 #[.int .i64 b.id, .int .i64 b.layers, .int .i64 b.dry.lo, .int .i64 b.dry.hi, .slice Ad nd cd, .slice Aw nw cw] from hw6 ▸ Blk.new _ _ _)
            have P2 := Lib.hid (show Own encW 65 4 w6 W.heap.size (.slice Aw nw cw) b.weighs from hw6 ▸ O2.out.alloc _)
            have hs6 : w6.heap.size = w5.heap.size + 1 := by rw [← hw6]; simp
            have HS6 := Lib.hid (show w.heap.size + 3 ≤ W.heap.size ∧ W.heap.size ≤ w5.heap.size ∧ w6.heap.size = w5.heap.size + 1 by have := HSW.out; have := HZ4.out; omega)
            have HSL6 := Lib.hid (show SlD w6 (.slice (some ⟨bb, off, none⟩) n cp) b.draws from HD.out.ext HE6.out)
            have HTL := Lib.hid (show (b.draws.take q).length = q by have := HLN.out; simp; omega)
            have HFL := Lib.hid (show (b.draws.take q ++ [x] ++ b.draws.drop q).length ≤ 1000 by have := HLN.out; simp; omega)
            clear hw6 hs6 x0 xl HH0 O1 O2 HSW
            have m4 := fun V (h : Ext w6 V) => (show V.cell? ⟨w.heap.size, 4, none⟩ = some (.slice (some ⟨bb, off, none⟩) n cp) from (HK0.out.ext h).cell 4)
            have n0 := fun V (h : Ext w6 V) => (show V.cell? ⟨w.heap.size + 1, 0, none⟩ = some (.int .i64 x.number) from (HK1.out.ext h).cell 0)
            have n1 := fun V (h : Ext w6 V) => (show V.cell? ⟨w.heap.size + 1, 1, none⟩ = some (.int .i64 x.layer) from (HK1.out.ext h).cell 1)
            have n2 := fun V (h : Ext w6 V) => (show V.cell? ⟨w.heap.size + 1, 2, none⟩ = some (.int .i64 x.grade.lo) from (HK1.out.ext h).cell 2)
            have n3 := fun V (h : Ext w6 V) => (show V.cell? ⟨w.heap.size + 1, 3, none⟩ = some (.int .i64 x.grade.hi) from (HK1.out.ext h).cell 3)
            have hqc : (q : Int) ≤ (cp : Int) := by omega
            have hqz : (0 : Int) ≤ (q : Int) := by omega
            have hqm : (q : Int) ≤ (n : Int) := by omega
            refine wp_region_tame_cut2 (fun V => Ext w6 V) (RF encD 4 63 w6.heap.size (b.draws.take q ++ [x] ++ b.draws.drop q) x) (by kernel_rfl) 57 rfl _ _ rfl rfl (by decide +kernel) (by decide +kernel) (by decide +kernel) (by decide +kernel) (by decide +kernel) rfl rfl (Ext.refl _).drew ?_
            simp only [List.dropLast]
            apply tame_v rfl (NewF encD 4 63 w6.heap.size ([] : List Draw)) (fun v V V' _ hR h => ⟨hR.2.1 [] List.nil_prefix v h.1, h.2⟩)
            · intro ρ V hC hr hD
              obtain ⟨hrc, hrg, hrf, hrs⟩ := hr
              simp [go_sem] at hD
              go_simp
              exact ⟨⟨hC.alloc _, RF.ext (Ext.al _ _)⟩, ⟨Own.new (Blk.new _ _ _) hC.size, _, 0, rfl, fun _ => rfl⟩⟩
            simp only [List.nil_append, List.cons_append]
            repeat (apply tame_q rfl; (intro ρ W hC hr hD; (obtain ⟨hrc, hrg, hrf, hrs⟩ := hr); (simp [go_sem] at hD); go_simp; first | exact ⟨⟨hC, RF.refl _⟩, rfl⟩ | exact rfl); simp only [List.nil_append, List.cons_append])
            apply tame_v rfl (NewF encD 4 63 w6.heap.size (b.draws.take q)) (fun v V V' _ hR h => ⟨hR.2.1 _ (by rw [List.append_assoc]; exact List.prefix_append _ _) v h.1, h.2⟩)
            · intro ρ V hC hr hD
              obtain ⟨hrc, hrg, hrf, hrs⟩ := hr
              simp [go_sem] at hD
              obtain ⟨d1, d2⟩ := hD
              have hh : SlD w6 (ρ (.tmp 41)) (b.draws.take q) := by
                rw [d2]
                exact Sl.head HSL6.out hqn
              obtain ⟨v', V', hrun, hnew, hR, hB⟩ := run_appF (t := 24) (ty := 24) (enc := encD) (sz := 4) (m := b.draws.take q) (y := x) Tryd.underlying24 info63x rfl (by decide) (by decide) (fun _ => rfl) encD_1 d1 (F := b.draws.take q ++ [x] ++ b.draws.drop q) (by rw [List.nil_append, List.append_assoc]; exact List.prefix_append _ _) HFL.out hC.size (hh.ext hC)
              show opGives _ _ _ _ _ _ _
              unfold opGives execOp
              simp only [resolve, invoke, builtin, Sem.run_bind, Sem.run_pure, Result.andThen_ok, List.map_toArray, List.map_cons, List.map_nil, hrun]
              exact ⟨⟨Below.trans hC hB, hR⟩, by rw [List.nil_append] at hnew; exact hnew⟩
            simp only [List.nil_append, List.cons_append]
            repeat (apply tame_q rfl; (intro ρ W hC hr hD; (obtain ⟨hrc, hrg, hrf, hrs⟩ := hr); (simp [go_sem] at hD); go_simp; first | exact ⟨⟨hC, RF.refl _⟩, rfl⟩ | exact rfl); simp only [List.nil_append, List.cons_append])
            apply tame_v rfl (OneF encD 63 x) (fun v V V' _ hR h => by obtain ⟨g, h1, h2⟩ := h; exact ⟨g, h1, hR.2.2.1 g h2⟩)
            · intro ρ V hC hr hD
              obtain ⟨hrc, hrg, hrf, hrs⟩ := hr
              simp [go_sem] at hD
              go_simp
              exact ⟨⟨hC.alloc _, RF.ext (Ext.al _ _)⟩, ⟨_, rfl, Blk.new _ _ _⟩⟩
            simp only [List.nil_append, List.cons_append]
            apply tame_v rfl (NewF encD 4 63 w6.heap.size (b.draws.take q ++ [x])) (fun v V V' _ hR h => ⟨hR.2.1 _ (List.prefix_append _ _) v h.1, h.2⟩)
            · intro ρ V hC hr hD
              obtain ⟨hrc, hrg, hrf, hrs⟩ := hr
              simp [go_sem] at hD
              obtain ⟨d1, ⟨g, d2, d3⟩, -⟩ := hD
              obtain ⟨v', V', hrun, hnew, hR, hB⟩ := run_appF (t := 24) (ty := 24) (enc := encD) (sz := 4) (m := [x]) (y := x) Tryd.underlying24 info63x rfl (by decide) (by decide) (fun _ => rfl) encD_1 d1 (F := b.draws.take q ++ [x] ++ b.draws.drop q) (List.prefix_append _ _) HFL.out hC.size (Sl.single (c := 1) d3 (Nat.le_refl _) (by decide))
              rw [← d2] at hrun
              show opGives _ _ _ _ _ _ _
              unfold opGives execOp
              simp only [resolve, invoke, builtin, Sem.run_bind, Sem.run_pure, Result.andThen_ok, List.map_toArray, List.map_cons, List.map_nil, hrun]
              exact ⟨⟨Below.trans hC hB, hR⟩, hnew⟩
            simp only [List.nil_append, List.cons_append]
            repeat (apply tame_q rfl; (intro ρ W hC hr hD; (obtain ⟨hrc, hrg, hrf, hrs⟩ := hr); (simp [go_sem] at hD); go_simp; first | exact ⟨⟨hC, RF.refl _⟩, rfl⟩ | exact rfl); simp only [List.nil_append, List.cons_append])
            apply tame_v rfl (NewF encD 4 63 w6.heap.size (b.draws.take q ++ [x] ++ b.draws.drop q)) (fun v V V' _ hR h => ⟨hR.2.1 _ (List.prefix_refl _) v h.1, h.2⟩)
            · intro ρ V hC hr hD
              obtain ⟨hrc, hrg, hrf, hrs⟩ := hr
              simp [go_sem] at hD
              obtain ⟨d1, d2, -⟩ := hD
              have hh : SlD w6 (ρ (.tmp 49)) (b.draws.drop q) := by
                rw [d2]
                have hh := Sl.tail HSL6.out hqn
                simpa [sliced, Addr.add_lit] using hh
              obtain ⟨v', V', hrun, hnew, hR, hB⟩ := run_appF (t := 24) (ty := 24) (enc := encD) (sz := 4) (m := b.draws.drop q) (y := x) Tryd.underlying24 info63x rfl (by decide) (by decide) (fun _ => rfl) encD_1 d1 (F := b.draws.take q ++ [x] ++ b.draws.drop q) (List.prefix_refl _) HFL.out hC.size (hh.ext hC)
              show opGives _ _ _ _ _ _ _
              unfold opGives execOp
              simp only [resolve, invoke, builtin, Sem.run_bind, Sem.run_pure, Result.andThen_ok, List.map_toArray, List.map_cons, List.map_nil, hrun]
              exact ⟨⟨Below.trans hC hB, hR⟩, hnew⟩
            simp only [List.nil_append, List.cons_append]
            refine tame_end 57 rfl rfl (fun ρ V hC hr hF => ?_)
            obtain ⟨hrc, hrg, hrf, hrs⟩ := hr
            simp [go_sem] at hF
            obtain ⟨f37, f38, f39, f40, f41, f42, f43, f44, f45, f46, f47, f48, f49, f50o, Af, cf, f50, -⟩ := hF
            rw [f50] at f50o
            have hln : (b.draws.take q ++ x :: b.draws.drop q).length = n + 1 := by have := HLN.out; simp; omega
            rw [hln] at f50 f50o
            have HFI := Lib.hid (show b.draws.take q ++ x :: b.draws.drop q = insD b.draws x by unfold insD; rw [← HAT.out]; simp)
            rw [HFI.out] at f50o
            have HO := Lib.hid f50o
            have HEV := Lib.hid hC
            clear f37 f42 f44 f45 f49 f50o hln HTL HFL HSL6 m4 n0 n1 n2 n3
            generalize ρ (Operand.tmp 37) = v37 at *
            generalize ρ (Operand.tmp 42) = v42 at *
            generalize ρ (Operand.tmp 44) = v44 at *
            generalize ρ (Operand.tmp 45) = v45 at *
            apply frame_to
            · go_simp
              exact rfl
            clear f38 f39 f40 f41 f43 f46 f47 f48 f50 hrc hrg hrf hrs hC
            have HL7 := Lib.hid (HK7.out.ext HEV.out)
            have x0 := HL7.out.cell 0
            have x1 := HL7.out.cell 1
            have x2 := HL7.out.cell 2
            have x3 := HL7.out.cell 3
            have x4 := HL7.out.cell 4
            have x5 := HL7.out.cell 5
            have xl := HL7.out.lt
            have xf := HL7.out.frozen
            simp at x0 x1 x2 x3 x4 x5
            go_wp2_with fail
            generalize hw7 : V.setCell ⟨w5.heap.size, 4, none⟩ _ = w7
            have HG7 : V.grownBy w7 (some w5.heap.size) := hw7 ▸ grown_set (World.grownBy.refl _ _) (p := ⟨w5.heap.size, 4, none⟩) (.inl rfl) _
            have HM7 := Lib.hid (show Blk w7 w5.heap.size 27 #[.int .i64 b.id, .int .i64 b.layers, .int .i64 b.dry.lo, .int .i64 b.dry.hi, .slice Af (n + 1) cf, .slice Aw nw cw] from hw7 ▸ (by have := HL7.out.set_ 4 (.slice Af (n + 1) cf); simpa using this))
            have HM2 := Lib.hid (show Blk w7 (w.heap.size + 1 + 1) 27 _ from (HK2.out.ext HEV.out).grown HG7 (by intro e; injection e with e; have := HS6.out; omega))
            have R1 := Lib.hid (show Own encD 63 4 w7 w6.heap.size (.slice Af (n + 1) cf) (insB b x).draws from own_off HO.out HL7.out (by decide) HG7)
            have R2 := Lib.hid (show Own encW 65 4 w7 W.heap.size (.slice Aw nw cw) (insB b x).weighs from own_off (P2.out.ext HEV.out) HL7.out (by decide) HG7)
            have E7 := Lib.hid (show Ext w w7 from ext_grown (HE6.out.trans HEV.out) HG7 (by have := HS6.out; omega))
            have hs7 := HG7.size
            have hsV := HEV.out.size
            have HS7 := Lib.hid (show w.heap.size + 3 ≤ W.heap.size ∧ W.heap.size ≤ w6.heap.size ∧ w6.heap.size ≤ w7.heap.size by have := HS6.out; omega)
            clear hw7 HG7 x0 x1 x2 x3 x4 x5 xl xf hs7 hsV HK0 HK1 HK2 HK7 HL7
            refine (refBale_v (insB b x) _ _ _ (Own.sl (fun _ => rfl) R1.out) (Own.sl (fun _ => rfl) R2.out)).mono ?_
            rintro e w9 ⟨rfl, hE9⟩
            have HE9 := Lib.hid hE9
            have HK9 := Lib.hid (HM7.out.ext hE9); have HG9 := Lib.hid (HM2.out.ext hE9)
            have hz9 : w7.heap.size ≤ w9.heap.size := hE9.size
            clear hE9 HM7 HM2
            have x0 := HK9.out.cell 0
            have x1 := HK9.out.cell 1
            have x2 := HK9.out.cell 2
            have x3 := HK9.out.cell 3
            have x4 := HK9.out.cell 4
            have x5 := HK9.out.cell 5
            have xl := HK9.out.lt
            have t0 := HG9.out.cell 0
            have t1 := HG9.out.cell 1
            have t2 := HG9.out.cell 2
            have t3 := HG9.out.cell 3
            have t4 := HG9.out.cell 4
            have t5 := HG9.out.cell 5
            have tl := HG9.out.lt
            have tf := HG9.out.frozen
            simp at x0 x1 x2 x3 x4 x5 t0 t1 t2 t3 t4 t5
            have hss := HS7.out
            cases hv : valid (insB b x) with
            | false =>
              have HVE := Lib.hid (show refPutE b x = 33 by unfold refPutE; rw [HV.out, if_pos rfl, if_neg (by have := hn.out; omega), hv]; rfl)
              have HVB := Lib.hid (show refPutB b x = noB by unfold refPutB; rw [HVE.out]; rfl)
              clear hv
              go_wp2
              refine ret_set6 HG9.out fun W' ⟨b0, b1, b2, b3, b4, b5⟩ hW => ?_
              refine bodyPost_ret (v := .tuple #[.agg #[.int .i64 0, .int .i64 0, .int .i64 0, .int .i64 0, .slice none 0 0, .slice none 0 0], .int .i64 33]) (by simp [results, Tryd.results49, go_sem, b0, b1, b2, b3, b4, b5]) rfl ?_
              exact ⟨⟨_, by rw [HVE.out], by rw [HVB.out]; exact TwinV.no _ _⟩, ext_grown (E7.out.trans HE9.out) hW (by omega)⟩
            | true =>
              have HVE := Lib.hid (show refPutE b x = 0 by unfold refPutE; rw [HV.out, if_pos rfl, if_neg (by have := hn.out; omega), hv]; rfl)
              have HVB := Lib.hid (show refPutB b x = insB b x by unfold refPutB; rw [HVE.out]; rfl)
              clear hv
              go_wp2
              refine ret_set6 HG9.out fun W' ⟨b0, b1, b2, b3, b4, b5⟩ hW => ?_
              refine bodyPost_ret (v := .tuple #[valB (insB b x) (.slice Af (n + 1) cf) (.slice Aw nw cw), .int .i64 0]) (by simp [results, Tryd.results49, go_sem, b0, b1, b2, b3, b4, b5, insB]) rfl ?_
              refine ⟨⟨_, by rw [HVE.out], ?_⟩, ext_grown (E7.out.trans HE9.out) hW (by omega)⟩
              rw [HVB.out]
              exact ⟨_, _, rfl, own_mono (own_kept (R1.out.ext HE9.out) hW (by omega)) (by omega), own_mono (own_kept (R2.out.ext HE9.out) hW (by omega)) (by omega)⟩
        · have HAT := Lib.hid (show q = spotD b.draws x by
            have h1 : b.draws.drop q = [] := List.drop_eq_nil_of_le (by have := HLN.out; omega)
            have h2 : spotD b.draws x = q + spotD (b.draws.drop q) x := AT.out
            rw [h1] at h2
            exact h2.symm)
          have hlz : ¬ ((q : Int) < (n : Int)) := by omega
          go_wp2_with fail
          refine wp_region_tame (fun W => Ext wr W) (fun W W' => Ext W W') (by kernel_rfl) 57 rfl (by decide +kernel) (Ext.refl _).drew ?_
          repeat (apply tame_q rfl; (intro ρ W hC hr hD; (obtain ⟨hrc, hrg, hrf, hrs⟩ := hr); (simp [go_sem] at hD); go_simp; first | exact ⟨⟨hC, Ext.refl _⟩, rfl⟩ | exact ⟨⟨hC, RS.refl _⟩, rfl⟩ | exact rfl); simp only [List.nil_append, List.cons_append])
          refine tame_end 57 rfl rfl (fun ρ W hC hr hF => ?_)
          obtain ⟨hrc, hrg, hrf, hrs⟩ := hr
          simp [go_sem] at hF
          apply frame_to
          · go_simp
            exact rfl
          have HEX := Lib.hid (EX.out.trans hC)
          clear hF hrs hrc hrg hrf hC m4 n0
          clear HD0 HD1 AT EX
--T2
          have HEW := Lib.hid (HE4.out.trans HEX.out)
          have HG0 := Lib.hid (HC0.out.ext HEX.out)
          have x0 := HG0.out.cell 0
          have x1 := HG0.out.cell 1
          have x2 := HG0.out.cell 2
          have x3 := HG0.out.cell 3
          have x4 := HG0.out.cell 4
          have x5 := HG0.out.cell 5
          have xl := HG0.out.lt
          simp at x0 x1 x2 x3 x4 x5
          go_wp2_with fail
          refine (twin_any b _ _ _ (HD.out.ext HEW.out) (HW.out.ext HEW.out) (by have := HLN.out; omega) (by have := HBD.out.nw; omega)).mono ?_
          rintro e w5 ⟨⟨v, rfl, dv, wv, rfl, o1, o2⟩, hE5⟩
          obtain ⟨Ad, nd, cd, rfl, -, -, -⟩ := (show SlD w5 dv b.draws from o1.sl (fun _ => rfl)).form
          obtain ⟨Aw, nw, cw, rfl, -, -, -⟩ := (show SlW w5 wv b.weighs from o2.sl (fun _ => rfl)).form
          have O1 := Lib.hid o1; have O2 := Lib.hid o2; have HE5 := Lib.hid (HEX.out.trans hE5)
          have HH0 := Lib.hid (HG0.out.ext hE5)
          have hs5 := hE5.size
          have hsW := HEX.out.size
          have HSW := Lib.hid (show w4.heap.size ≤ W.heap.size ∧ W.heap.size ≤ w5.heap.size by omega)
          clear o1 o2 hE5 HG0 x0 x1 x2 x3 x4 x5 xl hs5 hsW
          have x0 := HH0.out.cell 0
          have xl := HH0.out.lt
          dsimp only [valB]
          go_wp2_with fail
          generalize hw6 : w5.alloc (.cells #[.int .i64 b.id, .int .i64 b.layers, .int .i64 b.dry.lo, .int .i64 b.dry.hi, .slice Ad nd cd, .slice Aw nw cw] 27) = w6
          have HE6 := Lib.hid (show Ext w w6 from hw6 ▸ ((HE4.out.trans HE5.out).alloc _))
          have HK0 := Lib.hid (show Blk w6 w.heap.size 27 _ from hw6 ▸ HH0.out.alloc _)
          have HK1 := Lib.hid (show Blk w6 (w.heap.size + 1) 63 _ from hw6 ▸ (HC1.out.ext HE5.out).alloc _)
          have HK2 := Lib.hid (show Blk w6 (w.heap.size + 1 + 1) 27 _ from hw6 ▸ (HC2.out.ext HE5.out).alloc _)
          have HK7 := Lib.hid (show Blk w6 w5.heap.size 27 #[.int .i64 b.id, .int .i64 b.layers, .int .i64 b.dry.lo, .int .i64 b.dry.hi, .slice Ad nd cd, .slice Aw nw cw] from hw6 ▸ Blk.new _ _ _)
          have P2 := Lib.hid (show Own encW 65 4 w6 W.heap.size (.slice Aw nw cw) b.weighs from hw6 ▸ O2.out.alloc _)
          have hs6 : w6.heap.size = w5.heap.size + 1 := by rw [← hw6]; simp
          have HS6 := Lib.hid (show w.heap.size + 3 ≤ W.heap.size ∧ W.heap.size ≤ w5.heap.size ∧ w6.heap.size = w5.heap.size + 1 by have := HSW.out; have := HZ4.out; omega)
          have HSL6 := Lib.hid (show SlD w6 (.slice A n cp) b.draws from HD.out.ext HE6.out)
          have HTL := Lib.hid (show (b.draws.take q).length = q by have := HLN.out; simp; omega)
          have HFL := Lib.hid (show (b.draws.take q ++ [x] ++ b.draws.drop q).length ≤ 1000 by have := HLN.out; simp; omega)
          clear hw6 hs6 x0 xl HH0 O1 O2 HSW
          have m4 := fun V (h : Ext w6 V) => (show V.cell? ⟨w.heap.size, 4, none⟩ = some (.slice A n cp) from (HK0.out.ext h).cell 4)
          have n0 := fun V (h : Ext w6 V) => (show V.cell? ⟨w.heap.size + 1, 0, none⟩ = some (.int .i64 x.number) from (HK1.out.ext h).cell 0)
          have n1 := fun V (h : Ext w6 V) => (show V.cell? ⟨w.heap.size + 1, 1, none⟩ = some (.int .i64 x.layer) from (HK1.out.ext h).cell 1)
          have n2 := fun V (h : Ext w6 V) => (show V.cell? ⟨w.heap.size + 1, 2, none⟩ = some (.int .i64 x.grade.lo) from (HK1.out.ext h).cell 2)
          have n3 := fun V (h : Ext w6 V) => (show V.cell? ⟨w.heap.size + 1, 3, none⟩ = some (.int .i64 x.grade.hi) from (HK1.out.ext h).cell 3)
          have hqc : (q : Int) ≤ (cp : Int) := by omega
          have hqz : (0 : Int) ≤ (q : Int) := by omega
          have hqm : (q : Int) ≤ (n : Int) := by omega
          refine wp_region_tame_cut2 (fun V => Ext w6 V) (RF encD 4 63 w6.heap.size (b.draws.take q ++ [x] ++ b.draws.drop q) x) (by kernel_rfl) 57 rfl _ _ rfl rfl (by decide +kernel) (by decide +kernel) (by decide +kernel) (by decide +kernel) (by decide +kernel) rfl rfl (Ext.refl _).drew ?_
          simp only [List.dropLast]
          apply tame_v rfl (NewF encD 4 63 w6.heap.size ([] : List Draw)) (fun v V V' _ hR h => ⟨hR.2.1 [] List.nil_prefix v h.1, h.2⟩)
          · intro ρ V hC hr hD
            obtain ⟨hrc, hrg, hrf, hrs⟩ := hr
            simp [go_sem] at hD
            go_simp
            exact ⟨⟨hC.alloc _, RF.ext (Ext.al _ _)⟩, ⟨Own.new (Blk.new _ _ _) hC.size, _, 0, rfl, fun _ => rfl⟩⟩
          simp only [List.nil_append, List.cons_append]
          repeat (apply tame_q rfl; (intro ρ W hC hr hD; (obtain ⟨hrc, hrg, hrf, hrs⟩ := hr); (simp [go_sem] at hD); go_simp; first | exact ⟨⟨hC, RF.refl _⟩, rfl⟩ | exact rfl); simp only [List.nil_append, List.cons_append])
          apply tame_v rfl (NewF encD 4 63 w6.heap.size (b.draws.take q)) (fun v V V' _ hR h => ⟨hR.2.1 _ (by rw [List.append_assoc]; exact List.prefix_append _ _) v h.1, h.2⟩)
          · intro ρ V hC hr hD
            obtain ⟨hrc, hrg, hrf, hrs⟩ := hr
            simp [go_sem] at hD
            obtain ⟨d1, d2⟩ := hD
            have hh : SlD w6 (ρ (.tmp 41)) (b.draws.take q) := by
              rw [d2]
              exact Sl.head HSL6.out hqn
            obtain ⟨v', V', hrun, hnew, hR, hB⟩ := run_appF (t := 24) (ty := 24) (enc := encD) (sz := 4) (m := b.draws.take q) (y := x) Tryd.underlying24 info63x rfl (by decide) (by decide) (fun _ => rfl) encD_1 d1 (F := b.draws.take q ++ [x] ++ b.draws.drop q) (by rw [List.nil_append, List.append_assoc]; exact List.prefix_append _ _) HFL.out hC.size (hh.ext hC)
            show opGives _ _ _ _ _ _ _
            unfold opGives execOp
            simp only [resolve, invoke, builtin, Sem.run_bind, Sem.run_pure, Result.andThen_ok, List.map_toArray, List.map_cons, List.map_nil, hrun]
            exact ⟨⟨Below.trans hC hB, hR⟩, by rw [List.nil_append] at hnew; exact hnew⟩
          simp only [List.nil_append, List.cons_append]
          repeat (apply tame_q rfl; (intro ρ W hC hr hD; (obtain ⟨hrc, hrg, hrf, hrs⟩ := hr); (simp [go_sem] at hD); go_simp; first | exact ⟨⟨hC, RF.refl _⟩, rfl⟩ | exact rfl); simp only [List.nil_append, List.cons_append])
          apply tame_v rfl (OneF encD 63 x) (fun v V V' _ hR h => by obtain ⟨g, h1, h2⟩ := h; exact ⟨g, h1, hR.2.2.1 g h2⟩)
          · intro ρ V hC hr hD
            obtain ⟨hrc, hrg, hrf, hrs⟩ := hr
            simp [go_sem] at hD
            go_simp
            exact ⟨⟨hC.alloc _, RF.ext (Ext.al _ _)⟩, ⟨_, rfl, Blk.new _ _ _⟩⟩
          simp only [List.nil_append, List.cons_append]
          apply tame_v rfl (NewF encD 4 63 w6.heap.size (b.draws.take q ++ [x])) (fun v V V' _ hR h => ⟨hR.2.1 _ (List.prefix_append _ _) v h.1, h.2⟩)
          · intro ρ V hC hr hD
            obtain ⟨hrc, hrg, hrf, hrs⟩ := hr
            simp [go_sem] at hD
            obtain ⟨d1, ⟨g, d2, d3⟩, -⟩ := hD
            obtain ⟨v', V', hrun, hnew, hR, hB⟩ := run_appF (t := 24) (ty := 24) (enc := encD) (sz := 4) (m := [x]) (y := x) Tryd.underlying24 info63x rfl (by decide) (by decide) (fun _ => rfl) encD_1 d1 (F := b.draws.take q ++ [x] ++ b.draws.drop q) (List.prefix_append _ _) HFL.out hC.size (Sl.single (c := 1) d3 (Nat.le_refl _) (by decide))
            rw [← d2] at hrun
            show opGives _ _ _ _ _ _ _
            unfold opGives execOp
            simp only [resolve, invoke, builtin, Sem.run_bind, Sem.run_pure, Result.andThen_ok, List.map_toArray, List.map_cons, List.map_nil, hrun]
            exact ⟨⟨Below.trans hC hB, hR⟩, hnew⟩
          simp only [List.nil_append, List.cons_append]
          repeat (apply tame_q rfl; (intro ρ W hC hr hD; (obtain ⟨hrc, hrg, hrf, hrs⟩ := hr); (simp [go_sem] at hD); go_simp; first | exact ⟨⟨hC, RF.refl _⟩, rfl⟩ | exact rfl); simp only [List.nil_append, List.cons_append])
          apply tame_v rfl (NewF encD 4 63 w6.heap.size (b.draws.take q ++ [x] ++ b.draws.drop q)) (fun v V V' _ hR h => ⟨hR.2.1 _ (List.prefix_refl _) v h.1, h.2⟩)
          · intro ρ V hC hr hD
            obtain ⟨hrc, hrg, hrf, hrs⟩ := hr
            simp [go_sem] at hD
            obtain ⟨d1, d2, -⟩ := hD
            have hh : SlD w6 (ρ (.tmp 49)) (b.draws.drop q) := by
              rw [d2]
              have hh := Sl.tail HSL6.out hqn
              simpa [sliced, Addr.add_lit] using hh
            obtain ⟨v', V', hrun, hnew, hR, hB⟩ := run_appF (t := 24) (ty := 24) (enc := encD) (sz := 4) (m := b.draws.drop q) (y := x) Tryd.underlying24 info63x rfl (by decide) (by decide) (fun _ => rfl) encD_1 d1 (F := b.draws.take q ++ [x] ++ b.draws.drop q) (List.prefix_refl _) HFL.out hC.size (hh.ext hC)
            show opGives _ _ _ _ _ _ _
            unfold opGives execOp
            simp only [resolve, invoke, builtin, Sem.run_bind, Sem.run_pure, Result.andThen_ok, List.map_toArray, List.map_cons, List.map_nil, hrun]
            exact ⟨⟨Below.trans hC hB, hR⟩, hnew⟩
          simp only [List.nil_append, List.cons_append]
          refine tame_end 57 rfl rfl (fun ρ V hC hr hF => ?_)
          obtain ⟨hrc, hrg, hrf, hrs⟩ := hr
          simp [go_sem] at hF
          obtain ⟨f37, f38, f39, f40, f41, f42, f43, f44, f45, f46, f47, f48, f49, f50o, Af, cf, f50, -⟩ := hF
          rw [f50] at f50o
          have hln : (b.draws.take q ++ x :: b.draws.drop q).length = n + 1 := by have := HLN.out; simp; omega
          rw [hln] at f50 f50o
          have HFI := Lib.hid (show b.draws.take q ++ x :: b.draws.drop q = insD b.draws x by unfold insD; rw [← HAT.out]; simp)
          rw [HFI.out] at f50o
          have HO := Lib.hid f50o
          have HEV := Lib.hid hC
          clear f37 f42 f44 f45 f49 f50o hln HTL HFL HSL6 m4 n0 n1 n2 n3
          generalize ρ (Operand.tmp 37) = v37 at *
          generalize ρ (Operand.tmp 42) = v42 at *
          generalize ρ (Operand.tmp 44) = v44 at *
          generalize ρ (Operand.tmp 45) = v45 at *
          apply frame_to
          · go_simp
            exact rfl
          clear f38 f39 f40 f41 f43 f46 f47 f48 f50 hrc hrg hrf hrs hC
          have HL7 := Lib.hid (HK7.out.ext HEV.out)
          have x0 := HL7.out.cell 0
          have x1 := HL7.out.cell 1
          have x2 := HL7.out.cell 2
          have x3 := HL7.out.cell 3
          have x4 := HL7.out.cell 4
          have x5 := HL7.out.cell 5
          have xl := HL7.out.lt
          have xf := HL7.out.frozen
          simp at x0 x1 x2 x3 x4 x5
          go_wp2_with fail
          generalize hw7 : V.setCell ⟨w5.heap.size, 4, none⟩ _ = w7
          have HG7 : V.grownBy w7 (some w5.heap.size) := hw7 ▸ grown_set (World.grownBy.refl _ _) (p := ⟨w5.heap.size, 4, none⟩) (.inl rfl) _
          have HM7 := Lib.hid (show Blk w7 w5.heap.size 27 #[.int .i64 b.id, .int .i64 b.layers, .int .i64 b.dry.lo, .int .i64 b.dry.hi, .slice Af (n + 1) cf, .slice Aw nw cw] from hw7 ▸ (by have := HL7.out.set_ 4 (.slice Af (n + 1) cf); simpa using this))
          have HM2 := Lib.hid (show Blk w7 (w.heap.size + 1 + 1) 27 _ from (HK2.out.ext HEV.out).grown HG7 (by intro e; injection e with e; have := HS6.out; omega))
          have R1 := Lib.hid (show Own encD 63 4 w7 w6.heap.size (.slice Af (n + 1) cf) (insB b x).draws from own_off HO.out HL7.out (by decide) HG7)
          have R2 := Lib.hid (show Own encW 65 4 w7 W.heap.size (.slice Aw nw cw) (insB b x).weighs from own_off (P2.out.ext HEV.out) HL7.out (by decide) HG7)
          have E7 := Lib.hid (show Ext w w7 from ext_grown (HE6.out.trans HEV.out) HG7 (by have := HS6.out; omega))
          have hs7 := HG7.size
          have hsV := HEV.out.size
          have HS7 := Lib.hid (show w.heap.size + 3 ≤ W.heap.size ∧ W.heap.size ≤ w6.heap.size ∧ w6.heap.size ≤ w7.heap.size by have := HS6.out; omega)
          clear hw7 HG7 x0 x1 x2 x3 x4 x5 xl xf hs7 hsV HK0 HK1 HK2 HK7 HL7
          refine (refBale_v (insB b x) _ _ _ (Own.sl (fun _ => rfl) R1.out) (Own.sl (fun _ => rfl) R2.out)).mono ?_
          rintro e w9 ⟨rfl, hE9⟩
          have HE9 := Lib.hid hE9
          have HK9 := Lib.hid (HM7.out.ext hE9); have HG9 := Lib.hid (HM2.out.ext hE9)
          have hz9 : w7.heap.size ≤ w9.heap.size := hE9.size
          clear hE9 HM7 HM2
          have x0 := HK9.out.cell 0
          have x1 := HK9.out.cell 1
          have x2 := HK9.out.cell 2
          have x3 := HK9.out.cell 3
          have x4 := HK9.out.cell 4
          have x5 := HK9.out.cell 5
          have xl := HK9.out.lt
          have t0 := HG9.out.cell 0
          have t1 := HG9.out.cell 1
          have t2 := HG9.out.cell 2
          have t3 := HG9.out.cell 3
          have t4 := HG9.out.cell 4
          have t5 := HG9.out.cell 5
          have tl := HG9.out.lt
          have tf := HG9.out.frozen
          simp at x0 x1 x2 x3 x4 x5 t0 t1 t2 t3 t4 t5
          have hss := HS7.out
          cases hv : valid (insB b x) with
          | false =>
            have HVE := Lib.hid (show refPutE b x = 33 by unfold refPutE; rw [HV.out, if_pos rfl, if_neg (by have := hn.out; omega), hv]; rfl)
            have HVB := Lib.hid (show refPutB b x = noB by unfold refPutB; rw [HVE.out]; rfl)
            clear hv
            go_wp2
            refine ret_set6 HG9.out fun W' ⟨b0, b1, b2, b3, b4, b5⟩ hW => ?_
            refine bodyPost_ret (v := .tuple #[.agg #[.int .i64 0, .int .i64 0, .int .i64 0, .int .i64 0, .slice none 0 0, .slice none 0 0], .int .i64 33]) (by simp [results, Tryd.results49, go_sem, b0, b1, b2, b3, b4, b5]) rfl ?_
            exact ⟨⟨_, by rw [HVE.out], by rw [HVB.out]; exact TwinV.no _ _⟩, ext_grown (E7.out.trans HE9.out) hW (by omega)⟩
          | true =>
            have HVE := Lib.hid (show refPutE b x = 0 by unfold refPutE; rw [HV.out, if_pos rfl, if_neg (by have := hn.out; omega), hv]; rfl)
            have HVB := Lib.hid (show refPutB b x = insB b x by unfold refPutB; rw [HVE.out]; rfl)
            clear hv
            go_wp2
            refine ret_set6 HG9.out fun W' ⟨b0, b1, b2, b3, b4, b5⟩ hW => ?_
            refine bodyPost_ret (v := .tuple #[valB (insB b x) (.slice Af (n + 1) cf) (.slice Aw nw cw), .int .i64 0]) (by simp [results, Tryd.results49, go_sem, b0, b1, b2, b3, b4, b5, insB]) rfl ?_
            refine ⟨⟨_, by rw [HVE.out], ?_⟩, ext_grown (E7.out.trans HE9.out) hW (by omega)⟩
            rw [HVB.out]
            exact ⟨_, _, rfl, own_mono (own_kept (R1.out.ext HE9.out) hW (by omega)) (by omega), own_mono (own_kept (R2.out.ext HE9.out) hW (by omega)) (by omega)⟩
--EE
end Go.Proofs.YtdlipbobfgdleaaDoor
/- Building a bale in its box: draws appended in a region that drew its order, beside another list of the call's own; a draw's grade turned. -/
namespace Go.Proofs.YtdlipbobfgdleaaDoor
open Go.RowKit Go.Shelf Go.Lib
set_option maxRecDepth 100000
set_option linter.unusedSimpArgs false

/-- Rows of other types stay. -/
def OffT (e : TypeId) (W W' : World) : Prop := ∀ b e' cs, e' ≠ e → Blk W b e' cs → Blk W' b e' cs
theorem OffT.ext {e : TypeId} {W W' : World} (h : Ext W W') : OffT e W W' := fun _ _ _ _ k => k.ext h
theorem OffT.grown {α : Type} {enc : α → List Value} {e : TypeId} {sz base : Nat} {v : Value} {l : List α} {W W' : World} (h : Own enc e sz W base v l) (hg : W.grownBy W' v.ownBlock) : OffT e W W' := by
  intro b e' cs ne hB
  refine hB.grown hg ?_
  rcases h.2 with ⟨rfl, _⟩ | ⟨g, cap, cur, rfl, _, hh, _⟩
  · simp [Value.ownBlock]
  · intro he
    have : b = g := by simpa [Value.ownBlock] using he
    subst this
    unfold Blk at hB
    rw [hh] at hB
    injection hB with hB
    injection hB with _ e2 _
    exact ne e2.symm
theorem Own.offT {α : Type} {enc : α → List Value} {e e' : TypeId} {sz base : Nat} {v : Value} {l : List α} {W W' : World} (h : Own enc e' sz W base v l) (k : OffT e W W') (ne : e' ≠ e) : Own enc e' sz W' base v l := by
  refine ⟨h.1, ?_⟩
  rcases h.2 with h2 | ⟨g, cap, cur, e1, hb, hg, h5⟩
  · exact .inl h2
  · exact .inr ⟨g, cap, cur, e1, hb, k g e' cur ne hg, h5⟩
theorem ext_below {a w w' : World} {B : Nat} (h : Ext a w) (k : Below B w w') (hB : a.heap.size ≤ B) (hs : w.heap.size ≤ w'.heap.size) : Ext a w' :=
  ⟨k.os.trans h.os, k.tape.trans h.tape, k.output.trans h.output, Nat.le_trans h.size hs, fun i hi => (k.block i (by omega)).trans (h.block i hi)⟩

/-- append of one element: what else is known stays. -/
theorem run_appG {α : Type} {enc : α → List Value} {t ty e : TypeId} {sz : Nat} {z : Value} {bytes : Nat} (ht : Tryd.prog.underlying t = some (.slice e))
    (hinfo : (Tryd.prog.info? e).map (fun i => (i.zero, i.size, i.bytes)) = some (some z, sz, bytes)) (hzs : z.cells.size = sz) (hsz : 0 < sz) (hbytes : bytes ≤ 1000) (henc : ∀ x, (enc x).length = sz) (h1c : ∀ x, ∀ u ∈ enc x, u.oneCell' = true)
    {W : World} {base : Nat} {v x : Value} {l : List α} {y : α} (hv : NewF enc sz e base l v W) (hF : l.length < 1000) (hb : base ≤ W.heap.size) (hx : OneF enc e y x W) :
    ∃ v' W', (Builtin.append_ #[t, t] ty #[v, x]).run Tryd.prog W = .ok v' W' ∧ NewF enc sz e base (l ++ [y]) v' W' ∧ RF enc sz e base (l ++ [y]) y W W' ∧ Below base W W' ∧ OffT e W W' := by
  obtain ⟨b, rfl, hB⟩ := hx
  have hs : Sl enc sz W (.slice (some ⟨b, 0, none⟩) 1 1) [y] := Sl.single hB (Nat.le_refl _) (by decide)
  obtain ⟨v', W', hr, k1, k2, k3⟩ := run_appF (t := t) (ty := ty) (enc := enc) (sz := sz) (p := l) (m := [y]) (y := y) (F := l ++ [y]) ht hinfo hzs hsz hbytes henc h1c hv (List.prefix_refl _) (by rw [List.length_append]; simp; omega) hb hs
  refine ⟨v', W', hr, k1, k2, k3, ?_⟩
  obtain ⟨i0, hi, hz0, hz1, hz2⟩ := info_parts hinfo
  have hby : (l.length + 1) * bytes ≤ 1000 * 1000 := Nat.mul_le_mul (by omega) hbytes
  obtain ⟨v2, W2, hr2, -, h2, -⟩ := run_append_own (P := Tryd.prog) W base t ty e i0 z sz bytes ht hi hz0 hz1 hz2 hzs hsz v l.length (l.flatMap enc) hv.1 ⟨b, 0, none⟩ 1 1 ([y].flatMap enc) (by simp [henc]) (Sl.flat henc hsz hs) (fun u hu => by
    obtain ⟨q, _, hq⟩ := List.mem_flatMap.1 hu
    exact h1c q u hq) (by unfold maxLen; omega) (by omega) hb
  rw [hr] at hr2
  injection hr2 with _ e2
  subst e2
  exact OffT.grown hv.1 h2

/-- A bale in its box, that is being built: its draws in new memory, and another list. -/
structure CB {α : Type} (enc : α → List Value) (e : TypeId) (sz : Nat) (w0 : World) (p : Nat) (x0 x1 x2 x3 wv : Value) (L : List Draw) (dv lv : Value) (gl : List α) (V : World) : Prop where
  ex : Ext w0 V
  blk : Blk V p 27 #[x0, x1, x2, x3, dv, wv]
  hp : w0.heap.size ≤ p
  big : p + 1 ≤ V.heap.size
  d : NewF encD 4 63 (p + 1) L dv V
  l : Own enc e sz V (p + 1) lv gl
section
variable {α : Type} {enc : α → List Value} {e : TypeId} {sz : Nat} {w0 : World} {p : Nat} {x0 x1 x2 x3 wv : Value} {L : List Draw} {dv lv : Value} {gl : List α} {V V' : World}
theorem CB.ext (h : CB enc e sz w0 p x0 x1 x2 x3 wv L dv lv gl V) (k : Ext V V') : CB enc e sz w0 p x0 x1 x2 x3 wv L dv lv gl V' :=
  ⟨h.ex.trans k, h.blk.ext k, h.hp, Nat.le_trans h.big k.size, ⟨h.d.1.ext k, h.d.2⟩, h.l.ext k⟩
/-- The other list grows. -/
theorem CB.app {lv' : Value} {gl' : List α} (h : CB enc e sz w0 p x0 x1 x2 x3 wv L dv lv gl V) (k : Own enc e sz V' (p + 1) lv' gl') (hb : Below (p + 1) V V') (hg : V.grownBy V' lv.ownBlock) (h1 : 27 ≠ e) (h2 : 63 ≠ e) : CB enc e sz w0 p x0 x1 x2 x3 wv L dv lv' gl' V' :=
  have ho := OffT.grown h.l hg
  ⟨ext_below h.ex hb (by have := h.hp; omega) hg.size, ho p 27 _ h1 h.blk, h.hp, Nat.le_trans h.big hg.size, ⟨h.d.1.offT ho h2, h.d.2⟩, k⟩
/-- A draw is appended: the old slice still reads as it did. -/
theorem CB.old {y : Draw} (h : CB enc e sz w0 p x0 x1 x2 x3 wv L dv lv gl V) (hR : RF encD 4 63 (p + 1) (L ++ [y]) y V V') (hB : Below (p + 1) V V') (hO : OffT 63 V V') (h2 : e ≠ 63) : CB enc e sz w0 p x0 x1 x2 x3 wv L dv lv gl V' :=
  ⟨ext_below h.ex hB (by have := h.hp; omega) hR.1, hO p 27 _ (by decide) h.blk, h.hp, Nat.le_trans h.big hR.1, ⟨hR.2.1 L (List.prefix_append _ _) dv h.d.1, h.d.2⟩, h.l.offT hO h2⟩
/-- The new slice is put into the box. -/
theorem CB.put {y : Draw} {dv' : Value} (h : CB enc e sz w0 p x0 x1 x2 x3 wv L dv lv gl V) (hN : NewF encD 4 63 (p + 1) (L ++ [y]) dv' V) : CB enc e sz w0 p x0 x1 x2 x3 wv (L ++ [y]) dv' lv gl (V.setCell ⟨p, 4, none⟩ dv') :=
  ⟨h.ex.setCell (by have := h.hp; exact this) _, by have := h.blk.set_ 4 dv'; simpa using this, h.hp, by simpa [World.setCell] using h.big, ⟨hN.1.far (by show p < p + 1; omega) _, hN.2⟩, h.l.far (by show p < p + 1; omega) _⟩
theorem CB.cells (h : CB enc e sz w0 p x0 x1 x2 x3 wv L dv lv gl V) : V.cell? ⟨p, 0, none⟩ = some x0 ∧ V.cell? ⟨p, 1, none⟩ = some x1 ∧ V.cell? ⟨p, 2, none⟩ = some x2 ∧ V.cell? ⟨p, 3, none⟩ = some x3 ∧ V.cell? ⟨p, 4, none⟩ = some dv ∧ V.cell? ⟨p, 5, none⟩ = some wv ∧ p < V.heap.size :=
  ⟨h.blk.cell 0, h.blk.cell 1, h.blk.cell 2, h.blk.cell 3, h.blk.cell 4, h.blk.cell 5, h.blk.lt⟩
end

theorem CB.at_ {w0 : World} {p gb n cap k : Nat} {x0 x1 x2 x3 wv : Value} {L : List Draw} {dv : Value} {gl : List Int} {V : World} {y : Int} (h : CB encI 3 1 w0 p x0 x1 x2 x3 wv L dv (.slice (some ⟨gb, 0, none⟩) n cap) gl V) (hk : gl[k]? = some y) : V.cell? ⟨gb, k, none⟩ = some (.int .i64 y) ∧ gb < V.heap.size := by
  obtain ⟨a', c', hv, hl, hc, hcell⟩ := (h.l.sl (fun _ => rfl) : SlI V _ gl)
  injection hv with e1 e2 e3
  obtain ⟨b, off, hA, hb, hcell⟩ := hcell (Nat.lt_of_le_of_lt (Nat.zero_le _) (List.getElem?_eq_some_iff.1 hk).1)
  rw [← e1] at hA
  injection hA with hA
  injection hA with e4 e5
  subst e4 e5
  have := hcell k y hk 0 _ rfl
  simpa using And.intro this hb

theorem sl_cell {W : World} {b off n c j : Nat} {l : List Int} {y : Int} (h : SlI W (.slice (some ⟨b, off, none⟩) n c) l) (hy : l[j]? = some y) : W.cell? ⟨b, off + j, none⟩ = some (.int .i64 y) := by
  obtain ⟨a', c', hv, hl, hc, hcell⟩ := h
  injection hv with e1 e2 e3
  obtain ⟨b', off', hA, hb, hcell⟩ := hcell (Nat.lt_of_le_of_lt (Nat.zero_le _) (List.getElem?_eq_some_iff.1 hy).1)
  rw [← e1] at hA
  injection hA with hA
  injection hA with e4 e5
  subst e4 e5
  simpa using hcell j y hy 0 _ rfl
/-- A draw's grade is turned. -/
theorem cellsD {W : World} {b o : Nat} {y : Draw} (h : ∀ (j : Nat) (u : Value), (encD y)[j]? = some u → W.cell? ⟨b, o + j, none⟩ = some u) : W.cell? ⟨b, o + 2, none⟩ = some (.int .i64 y.grade.lo) ∧ W.cell? ⟨b, o + 3, none⟩ = some (.int .i64 y.grade.hi) := ⟨h 2 _ rfl, h 3 _ rfl⟩
theorem Sl.putG {W : World} {g o n c i : Nat} {l : List Draw} {x : Draw} {s : Span} (h : SlD W (.slice (some ⟨g, o, none⟩) n c) l) (hi : i < n) (hx : l[i]? = some x) :
    SlD ((W.setCell ⟨g, o + i * 4 + 2, none⟩ (.int .i64 s.lo)).setCell ⟨g, o + i * 4 + 3, none⟩ (.int .i64 s.hi)) (.slice (some ⟨g, o, none⟩) n c) (l.set i ⟨x.number, x.layer, s⟩) := by
  obtain ⟨b, off, y, e1, hy, hb, hyc⟩ := h.at_ hi
  injection e1 with e1
  injection e1 with e1 e2
  subst e1 e2
  obtain rfl : x = y := by rw [hx] at hy; injection hy
  obtain ⟨c0, c1⟩ := cellsD (hyc W (Ext.refl _))
  obtain ⟨a', c', hv, hl, hc, hcell⟩ := h
  injection hv with e1 e2 e3
  subst e1 e2 e3
  refine ⟨_, _, by rw [List.length_set], by rw [List.length_set]; exact hl, hc, fun h0 => ?_⟩
  rw [List.length_set] at h0
  obtain ⟨b', off', hA, hb', hcell⟩ := hcell h0
  injection hA with hA
  injection hA with e1 e2
  subst e1 e2
  refine ⟨_, _, rfl, by simpa [World.setCell] using hb', fun k z hk j u hu => ?_⟩
  have c1' : (W.setCell ⟨g, o + i * 4 + 2, none⟩ (.int .i64 s.lo)).cell? ⟨g, o + i * 4 + 3, none⟩ = some (.int .i64 x.grade.hi) := by rw [cell_set2 c0, if_neg (by omega)]; exact c1
  rw [cell_set2 c1', cell_set2 c0]
  have hj : j < 4 := by
    have := (List.getElem?_eq_some_iff.1 hu).1
    exact this
  rw [List.getElem?_set] at hk
  by_cases hik : i = k
  · subst hik
    simp only [if_true] at hk
    rw [if_pos (by omega)] at hk
    injection hk with hk
    subst hk
    obtain rfl | rfl | rfl | rfl : j = 0 ∨ j = 1 ∨ j = 2 ∨ j = 3 := by omega
    · rw [if_neg (by omega), if_neg (by omega)]; exact hcell i x hx 0 u hu
    · rw [if_neg (by omega), if_neg (by omega)]; exact hcell i x hx 1 u hu
    · rw [if_neg (by omega), if_pos (by omega)]; exact hu
    · rw [if_pos (by omega)]; exact hu
  · rw [if_neg hik] at hk
    rw [if_neg (by omega), if_neg (by omega)]
    exact hcell k z hk j u hu
/-- A bale in its box, the grades of whose draws are turned. -/
structure CT (w1 : World) (p : Nat) (x0 x1 x2 x3 wv : Value) (n g c : Nat) (L : List Draw) (V : World) : Prop where
  ex : Ext w1 V
  blk : Blk V p 27 #[x0, x1, x2, x3, .slice (some ⟨g, 0, none⟩) n c, wv]
  hp : w1.heap.size ≤ p
  hg : w1.heap.size ≤ g
  ne : p ≠ g
  f : ∀ j, V.frozen? ⟨g, j, none⟩ = false
  d : SlD V (.slice (some ⟨g, 0, none⟩) n c) L
section
variable {w1 : World} {p : Nat} {x0 x1 x2 x3 wv : Value} {n g c : Nat} {L : List Draw} {V V' : World}
theorem CT.lt (h : CT w1 p x0 x1 x2 x3 wv n g c L V) (hn : 0 < n) : g < V.heap.size := by
  obtain ⟨b, o, y, e, _, hb, _⟩ := h.d.at_ hn
  injection e with e
  injection e with e _
  exact e ▸ hb
theorem CT.ext (h : CT w1 p x0 x1 x2 x3 wv n g c L V) (hn : 0 < n) (k : Ext V V') : CT w1 p x0 x1 x2 x3 wv n g c L V' :=
  ⟨h.ex.trans k, h.blk.ext k, h.hp, h.hg, h.ne, fun j => (k.cells.2 g j (h.lt hn)).trans (h.f j), h.d.ext k⟩
theorem CT.put {i : Nat} {x : Draw} {s : Span} (h : CT w1 p x0 x1 x2 x3 wv n g c L V) (hi : i < n) (hx : L[i]? = some x) :
    CT w1 p x0 x1 x2 x3 wv n g c (L.set i ⟨x.number, x.layer, s⟩) ((V.setCell ⟨g, i * 4 + 2, none⟩ (.int .i64 s.lo)).setCell ⟨g, i * 4 + 3, none⟩ (.int .i64 s.hi)) := by
  refine ⟨(h.ex.setCell h.hg _).setCell h.hg _, (h.blk.far h.ne _).far h.ne _, h.hp, h.hg, h.ne, fun j => ?_, ?_⟩
  · have := h.f j
    rw [World.frozen?_setCell, World.frozen?_setCell]; exact this
  · have := h.d.putG (s := s) hi hx
    simpa using this
theorem CT.at_ {i : Nat} (h : CT w1 p x0 x1 x2 x3 wv n g c L V) (hi : i < n) : ∃ u2 u3, V.cell? ⟨g, i * 4 + 2, none⟩ = some u2 ∧ V.cell? ⟨g, i * 4 + 3, none⟩ = some u3 ∧ V.frozen? ⟨g, i * 4 + 2, none⟩ = false ∧ V.frozen? ⟨g, i * 4 + 3, none⟩ = false ∧ g < V.heap.size := by
  obtain ⟨b, o, y, e, _, hb, hc⟩ := h.d.at_ hi
  injection e with e
  injection e with e e2
  subst e e2
  obtain ⟨c0, c1⟩ := cellsD (hc V (Ext.refl _))
  simp only [Nat.zero_add] at c0 c1
  exact ⟨_, _, c0, c1, h.f _, h.f _, hb⟩
theorem CT.cells (h : CT w1 p x0 x1 x2 x3 wv n g c L V) : V.cell? ⟨p, 0, none⟩ = some x0 ∧ V.cell? ⟨p, 1, none⟩ = some x1 ∧ V.cell? ⟨p, 2, none⟩ = some x2 ∧ V.cell? ⟨p, 3, none⟩ = some x3 ∧ V.cell? ⟨p, 4, none⟩ = some (.slice (some ⟨g, 0, none⟩) n c) ∧ V.cell? ⟨p, 5, none⟩ = some wv ∧ p < V.heap.size :=
  ⟨h.blk.cell 0, h.blk.cell 1, h.blk.cell 2, h.blk.cell 3, h.blk.cell 4, h.blk.cell 5, h.blk.lt⟩
end
end Go.Proofs.YtdlipbobfgdleaaDoor
