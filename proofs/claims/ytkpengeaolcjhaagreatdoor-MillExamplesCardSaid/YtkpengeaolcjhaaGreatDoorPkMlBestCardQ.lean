/- cmp.Or, mill.order; mill.laid, full. -/
import Derived.Test.YtkpengeaolcjhaaGreatDoorPkMlBestCardO
import Derived.Test.YtkpengeaolcjhaaGreatDoorPkMlBestCardI
import Derived.Test.YtkpengeaolcjhaaGreatDoorPkMlBestCardN
namespace Go.Proofs.YtkpengeaolcjhaaGreatDoor
open Go.RowKit Go.Shelf Go.Lib
set_option maxRecDepth 100000
set_option linter.unusedSimpArgs false

def orL : List Int → Int
  | [] => 0
  | x :: l => if x ≠ 0 then x else orL l
set_option maxHeartbeats 1000000 in
theorem or_any (l : List Int) (v : Value) (w : World) (hs : SlI w v l) : Calls Tryz.prog 73 #[v] w fun e w' => e = .returned (.int .i64 (orL l)) ∧ Ext w w' := by
  obtain ⟨A, n, c, rfl, hn, hlc, hcm⟩ := hs.form
  have HS := Lib.hid hs
  clear hs
  go_enter Tryz.func73, Tryz.ntmps73
  go_wp2
  go_loopg [8] n (fun gg s8 wr => ∃ kk : Nat, kk ≤ n ∧ n - kk ≤ gg ∧ s8 = .int .i64 (kk : Int) ∧ Aside (orL l = orL (l.drop kk)) ∧ Aside (Ext w wr))
  case atStart => exact ⟨0, Nat.zero_le _, by omega, rfl, by show _ = _; rw [List.drop_zero], Ext.refl w⟩
  case round =>
    obtain ⟨kk, hkk, hg, rfl, HO, BW⟩ := hrel
    by_cases hlt : kk < n
    · have hltz : (kk : Int) < (n : Int) := by omega
      obtain ⟨b, off, x, rfl, hx, hb, hcell⟩ := HS.out.at_ hlt
      have c0 := SlI.cell hcell BW.out
      have hd := drop_at hx
      by_cases h0 : x = 0
      · have HQ := Lib.hid (show orL l = orL (l.drop (kk + 1)) by rw [HO.out, hd]; show (if x ≠ 0 then x else _) = _; rw [if_neg (by simpa using h0)])
        subst h0
        clear hx hcell hd
        go_wp2
        go_roundg (n - (kk + 1))
        case measure => omega
        case rel => exact ⟨kk + 1, by omega, by omega, by simp, HQ.out, BW.out⟩
      · have HQ := Lib.hid (show orL l = x by rw [HO.out, hd]; show (if x ≠ 0 then x else _) = _; rw [if_pos h0])
        have h0b : (x == 0) = false := by simpa using h0
        clear hx hcell hd
        go_wp2
        go_ret
        exact ⟨by rw [HQ.out]; rfl, BW.out⟩
    · have HQ := Lib.hid (show orL l = 0 by rw [HO.out, List.drop_of_length_le (by have := hn.out; omega)]; rfl)
      go_wp2
      go_ret
      exact ⟨by rw [HQ.out]; rfl, BW.out⟩
theorem ordU_or (a b : Int × Int) : orL [cmpI a.1 b.1, cmpI a.2 b.2] = ordU a b := by
  unfold orL ordU orL orL
  show (if cmpM a.1 b.1 ≠ 0 then cmpM a.1 b.1 else if cmpM a.2 b.2 ≠ 0 then cmpM a.2 b.2 else 0) = _
  split
  · rfl
  · split
    · rfl
    · omega
/-- A slice of two fresh numbers. -/
def TwoB (x y : Int) (v : Value) (W : World) : Prop := ∃ b, v = .slice (some ⟨b, 0, none⟩) 2 2 ∧ Blk W b 3 #[.int .i64 x, .int .i64 y]
theorem TwoB.ext {x y : Int} {v : Value} {W W' : World} (h : TwoB x y v W) (e : Ext W W') : TwoB x y v W' := by
  obtain ⟨b, h1, h2⟩ := h
  exact ⟨b, h1, h2.ext e⟩
theorem TwoB.sl {x y : Int} {v : Value} {W : World} (h : TwoB x y v W) : SlI W v [x, y] := by
  obtain ⟨b, rfl, h2⟩ := h
  exact SlI.lit [x, y] h2.lt (by simp [maxLen]) (fun j z hz => by
    match j, hz with
    | 0, hz => simp at hz; subst hz; exact h2.c2.1
    | 1, hz => simp at hz; subst hz; exact h2.c2.2.1)
set_option maxHeartbeats 1000000 in
theorem order_any (a b : Int × Int) (w : World) : Calls Tryz.prog 74 #[valU a, valU b] w fun e w' => e = .returned (.int .i64 (ordU a b)) ∧ Ext w w' := by
  have HOR := Lib.hid (ordU_or a b)
  go_enter Tryz.func74, Tryz.ntmps74
  go_wp2
  obtain ⟨w2, hw2⟩ : ∃ w2, w2 = (w.alloc (.cells #[.int .i64 a.1, .int .i64 a.2] 106)).alloc (.cells #[.int .i64 b.1, .int .i64 b.2] 106) := ⟨_, rfl⟩
  rw [← hw2]
  have B0 := Lib.hid (show Blk w2 w.heap.size 106 #[.int .i64 a.1, .int .i64 a.2] from hw2 ▸ (Blk.new _ _ _).alloc _)
  have B1 := Lib.hid (show Blk w2 (w.heap.size + 1) 106 #[.int .i64 b.1, .int .i64 b.2] from hw2 ▸ (Blk.at_ (by simp)))
  have E2 := Lib.hid (show Ext w w2 from hw2 ▸ (Ext.al _ _).alloc _)
  clear hw2
  have v0 := fun V (h : Ext w2 V) => (B0.out.ext h).c2.1
  have v1 := fun V (h : Ext w2 V) => (B0.out.ext h).c2.2.1
  have u0 := fun V (h : Ext w2 V) => (B1.out.ext h).c2.1
  have u1 := fun V (h : Ext w2 V) => (B1.out.ext h).c2.2.1
  refine wp_region_tame (fun W => Ext w2 W) (fun W W' => Ext W W') (by kernel_rfl) 17 rfl (by decide +kernel) (Ext.refl _).drew ?_
  repeat (apply tame_q rfl; (intro ρ W hC hr hD; (obtain ⟨hrc, hrg, hrf, hrs⟩ := hr); (simp [go_sem] at hD); go_simp; first | exact ⟨⟨hC, Ext.refl _⟩, rfl⟩ | exact ⟨⟨hC, RS.refl _⟩, rfl⟩ | exact rfl); simp only [List.nil_append, List.cons_append])
  apply tame_q rfl
  · intro ρ W hC hr hD
    obtain ⟨hrc, hrg, hrf, hrs⟩ := hr
    simp [go_sem] at hD
    go_simp
    refine (compare_any a.1 b.1 W).mono ?_
    rintro e w' ⟨rfl, hE⟩
    exact ⟨_, rfl, ⟨hC.trans hE, hE⟩, rfl⟩
  simp only [List.nil_append, List.cons_append]
  repeat (apply tame_q rfl; (intro ρ W hC hr hD; (obtain ⟨hrc, hrg, hrf, hrs⟩ := hr); (simp [go_sem] at hD); go_simp; first | exact ⟨⟨hC, Ext.refl _⟩, rfl⟩ | exact ⟨⟨hC, RS.refl _⟩, rfl⟩ | exact rfl); simp only [List.nil_append, List.cons_append])
  apply tame_q rfl
  · intro ρ W hC hr hD
    obtain ⟨hrc, hrg, hrf, hrs⟩ := hr
    simp [go_sem] at hD
    go_simp
    refine (compare_any a.2 b.2 W).mono ?_
    rintro e w' ⟨rfl, hE⟩
    exact ⟨_, rfl, ⟨hC.trans hE, hE⟩, rfl⟩
  simp only [List.nil_append, List.cons_append]
  apply tame_v rfl (TwoB (cmpI a.1 b.1) (cmpI a.2 b.2)) (fun v V V' _ hE h => h.ext hE)
  · intro ρ V hC hr hD
    obtain ⟨hrc, hrg, hrf, hrs⟩ := hr
    simp [go_sem] at hD
    go_simp
    exact ⟨⟨hC.alloc _, Ext.al _ _⟩, ⟨_, rfl, Blk.new _ _ _⟩⟩
  simp only [List.nil_append, List.cons_append]
  apply tame_q rfl
  · intro ρ V hC hr hD
    obtain ⟨hrc, hrg, hrf, hrs⟩ := hr
    simp [go_sem] at hD
    go_simp
    refine (or_any _ _ V hD.1.sl).mono ?_
    rintro e w' ⟨rfl, hE⟩
    rw [HOR.out]
    exact ⟨_, rfl, ⟨hC.trans hE, hE⟩, rfl⟩
  simp only [List.nil_append, List.cons_append]
  repeat (apply tame_q rfl; (intro ρ W hC hr hD; (obtain ⟨hrc, hrg, hrf, hrs⟩ := hr); (simp [go_sem] at hD); go_simp; first | exact ⟨⟨hC, Ext.refl _⟩, rfl⟩ | exact ⟨⟨hC, RS.refl _⟩, rfl⟩ | exact rfl); simp only [List.nil_append, List.cons_append])
  refine tame_end 17 rfl rfl (fun ρ V hC hr hF => ?_)
  obtain ⟨hrc, hrg, hrf, hrs⟩ := hr
  simp [go_sem] at hF
  apply frame_to
  · go_simp
    exact rfl
  have HE := Lib.hid (E2.out.trans hC)
  clear hC hF hrs hrc hrg hrf v0 v1 u0 u1
  go_wp2
  go_ret
  exact ⟨rfl, HE.out⟩

theorem MapB.dropB {W : World} {m n : Nat} {g : Int → Bool} (h : MapB W m n g) {k : Int} (hk : In64 k) (ty : TypeId) :
    ∃ W', (Builtin.delete_ #[93, 3] ty #[.map (some m), .int .i64 k]).run Tryz.prog W = .ok (.tuple #[]) W' ∧ MapB W' m n (fun x => if x = k then false else g x) ∧ W.grownBy W' (some m) := by
  obtain ⟨D, ho, hM, hg⟩ := h
  obtain ⟨W', hr, ho', ht⟩ := ho.drop (Maps.int_keyed Tryz.underlying3) Tryz.underlying93 (Maps.keyOf_int_mk Tryz.underlying3 hk.wf) ty
  refine ⟨W', hr, ⟨_, ho', ho'.isMap, fun x => ?_⟩, ht.grown⟩
  by_cases hx : x = k
  · subst hx
    rw [Maps.atKey_del_same]
    simp
  · rw [Maps.atKey_del_other (by intro e; injection e with _ e; exact hx e), hg x]
    simp [hx]
/-- The map of fit bales, up to a bale. -/
def fitTo (l : List Rc) (k : Nat) (x : Int) : Bool := decide (0 ≤ x) && decide (x < k) && (match l[x.toNat]? with | some r => fitB r.c | none => false)
theorem fitTo_zero (l : List Rc) : (fun _ => false) = fitTo l 0 := by
  funext x
  unfold fitTo
  by_cases h : 0 ≤ x
  · rw [decide_eq_false (show ¬ x < ((0 : Nat) : Int) by omega)]; simp
  · rw [decide_eq_false h]; simp
theorem fitTo_succ {l : List Rc} {k : Nat} {r : Rc} (hr : l[k]? = some r) : (fun x => if x = (k : Int) then fitB r.c else fitTo l k x) = fitTo l (k + 1) := by
  funext x
  by_cases h : x = (k : Int)
  · subst h
    unfold fitTo
    rw [if_pos rfl, decide_eq_true (show (0 : Int) ≤ (k : Int) by omega), decide_eq_true (show (k : Int) < ((k + 1 : Nat) : Int) by omega)]
    simp [hr]
  · rw [if_neg h]
    unfold fitTo
    have : decide (x < (k : Int)) = decide (x < ((k + 1 : Nat) : Int)) := by rw [Bool.eq_iff_iff]; simp; omega
    rw [this]
theorem fitTo_at {l : List Rc} {k : Nat} {r : Rc} (hr : l[k]? = some r) : fitTo l l.length (k : Int) = fitB r.c := by
  have hk := (List.getElem?_eq_some_iff.1 hr).1
  unfold fitTo
  rw [decide_eq_true (show (0 : Int) ≤ (k : Int) by omega), decide_eq_true (show (k : Int) < ((l.length : Nat) : Int) by omega)]
  simp [hr]
theorem ret_set4 {P : Program} {fn : Func} {R : Ending → World → Prop} {ex : Exit} {a : Act} {w1 : World} {g : Nat} {t : TypeId} {x0 x1 x2 x3 y0 y1 y2 y3 : Value} (hB : Blk w1 g t #[x0, x1, x2, x3])
    (h : ∀ W, (W.cell? ⟨g, 0, none⟩ = some y0 ∧ W.cell? ⟨g, 1, none⟩ = some y1 ∧ W.cell? ⟨g, 2, none⟩ = some y2 ∧ W.cell? ⟨g, 3, none⟩ = some y3) → w1.grownBy W (some g) → bodyPost P fn R ex a W) :
    bodyPost P fn R ex a ((((w1.setCell ⟨g, 0, none⟩ y0).setCell ⟨g, 1, none⟩ y1).setCell ⟨g, 2, none⟩ y2).setCell ⟨g, 3, none⟩ y3) := by
  have K := (((hB.set_ 0 y0).set_ 1 y1).set_ 2 y2).set_ 3 y3
  exact h _ ⟨K.cell 0, K.cell 1, K.cell 2, K.cell 3⟩ (grown_set (grown_set (grown_set (grown_set (World.grownBy.refl _ _) (p := ⟨g, 0, none⟩) (.inl rfl) y0) (p := ⟨g, 1, none⟩) (.inl rfl) y1) (p := ⟨g, 2, none⟩) (.inl rfl) y2) (p := ⟨g, 3, none⟩) (.inl rfl) y3)
theorem ret_set3 {P : Program} {fn : Func} {R : Ending → World → Prop} {ex : Exit} {a : Act} {w1 : World} {g : Nat} {t : TypeId} {x0 x1 x2 y0 y1 y2 : Value} (hB : Blk w1 g t #[x0, x1, x2])
    (h : ∀ W, (W.cell? ⟨g, 0, none⟩ = some y0 ∧ W.cell? ⟨g, 1, none⟩ = some y1 ∧ W.cell? ⟨g, 2, none⟩ = some y2) → w1.grownBy W (some g) → bodyPost P fn R ex a W) :
    bodyPost P fn R ex a (((w1.setCell ⟨g, 0, none⟩ y0).setCell ⟨g, 1, none⟩ y1).setCell ⟨g, 2, none⟩ y2) := by
  have K := ((hB.set_ 0 y0).set_ 1 y1).set_ 2 y2
  exact h _ ⟨K.cell 0, K.cell 1, K.cell 2⟩ (grown_set (grown_set (grown_set (World.grownBy.refl _ _) (p := ⟨g, 0, none⟩) (.inl rfl) y0) (p := ⟨g, 1, none⟩) (.inl rfl) y1) (p := ⟨g, 2, none⟩) (.inl rfl) y2)
abbrev valT (lots size : Int) (sv : Value) (m : Nat) : Value := .agg #[.int .i64 lots, .int .i64 size, sv, .map (some m)]
set_option maxHeartbeats 4000000 in
theorem laid_any (lots size : Int) (l : List Rc) (sv : Value) (w : World) (hT : Tab w) (hs : MlC w sv l) (hlen : l.length ≤ 1000) :
    Calls Tryz.prog 51 #[valM lots size sv] w fun e w' => (∃ m n, e = .returned (valT lots size sv m) ∧ w.heap.size ≤ m ∧ n ≤ 1000 ∧ MapB w' m n (fitTo l l.length)) ∧ Ext w w' := by
  have HS := Lib.hid hs; have HT := Lib.hid hT
  obtain ⟨A, n, c, rfl, hn, hlc, hcm⟩ := hs.1.form
  have HL := Lib.hid (show l.length = n from hn.out.symm)
  have hnb : n ≤ 1000 := by have := hn.out; omega
  clear hs hn hT hlen
  have rm := fun w => run_makeMap (P := Tryz.prog) 93 w
  go_enter Tryz.func51, Tryz.ntmps51
  go_wp2
  obtain ⟨w4, hw4⟩ : ∃ w4, w4 = ((((w.alloc (.cells #[.int .i64 lots, .int .i64 size, .slice A n c] 24)).alloc (.cells #[.int .i64 0, .int .i64 0, .slice none 0 0, .map none] 95)).alloc (.map #[] 0)).alloc (.cells #[.int .i64 lots, .int .i64 size, .slice A n c, .map (some (w.heap.size + 1 + 1))] 95)) := ⟨_, rfl⟩
  rw [← hw4]
  have B1 := Lib.hid (show Blk w4 (w.heap.size + 1) 95 #[.int .i64 0, .int .i64 0, .slice none 0 0, .map none] from hw4 ▸ ((Blk.at_ (by simp)).alloc _).alloc _)
  have B3 := Lib.hid (show Blk w4 (w.heap.size + 1 + 1 + 1) 95 #[.int .i64 lots, .int .i64 size, .slice A n c, .map (some (w.heap.size + 1 + 1))] from hw4 ▸ (Blk.at_ (by simp)))
  have hM0 : MapB ((w.alloc (.cells #[.int .i64 lots, .int .i64 size, .slice A n c] 24)).alloc (.cells #[.int .i64 0, .int .i64 0, .slice none 0 0, .map none] 95) |>.alloc (.map #[] 0)) (w.heap.size + 1 + 1) 0 (fun _ => false) := by
    have := MapB.made ((w.alloc (.cells #[.int .i64 lots, .int .i64 size, .slice A n c] 24)).alloc (.cells #[.int .i64 0, .int .i64 0, .slice none 0 0, .map none] 95))
    simpa using this
  have HM := Lib.hid (show MapB w4 (w.heap.size + 1 + 1) 0 (fitTo l 0) by rw [← fitTo_zero, hw4]; exact hM0.ext (Ext.al _ _))
  have E4 := Lib.hid (show Ext w w4 from hw4 ▸ (((Ext.al _ _).alloc _).alloc _).alloc _)
  clear hw4 hM0 rm
  go_loopg [14] n (fun gg s14 wr => ∃ kk : Nat, kk ≤ n ∧ n - kk ≤ gg ∧ s14 = .int .i64 (kk : Int) ∧ Aside (Blk wr (w.heap.size + 1) 95 #[.int .i64 0, .int .i64 0, .slice none 0 0, .map none]) ∧ Aside (Blk wr (w.heap.size + 1 + 1 + 1) 95 #[.int .i64 lots, .int .i64 size, .slice A n c, .map (some (w.heap.size + 1 + 1))]) ∧ Aside (MapB wr (w.heap.size + 1 + 1) kk (fitTo l kk)) ∧ Aside (Ext w wr))
  case atStart => exact ⟨0, by omega, by omega, by simp, B1.out, B3.out, HM.out, E4.out⟩
  case round =>
    obtain ⟨kk, hkk, hgg, rfl, K1, K3, KM, HW⟩ := hrel
    clear B1 B3 HM E4
    by_cases hlt : kk < n
    · have hltz : (kk : Int) < (n : Int) := by omega
      have hin : In64 (kk : Int) := by unfold In64; omega
      obtain ⟨b, off, x, rfl, hx, hb, hcell⟩ := HS.out.1.at_ hlt
      obtain ⟨c0, c1, c2, c3, c4, c5, c6, c7⟩ := SlC.cells hcell HW.out
      have HX := Lib.hid (HS.out.2 x (List.mem_of_getElem? hx))
      have HFT := Lib.hid (fitTo_succ hx)
      obtain ⟨w5, hw5⟩ : ∃ w5, w5 = wr.alloc (.cells #[.int .i64 x.c.b.id, .int .i64 x.c.b.layers, .int .i64 x.c.b.dry.lo, .int .i64 x.c.b.dry.hi, .slice x.da x.dn x.dc, .slice x.wa x.wn x.wc, .int .i64 x.c.len, .int .i64 x.c.str] 63) := ⟨_, rfl⟩
      have E5 := Lib.hid (show Ext wr w5 from hw5 ▸ Ext.al _ _)
      have HB5 := Lib.hid (show Blk w5 wr.heap.size 63 #[.int .i64 x.c.b.id, .int .i64 x.c.b.layers, .int .i64 x.c.b.dry.lo, .int .i64 x.c.b.dry.hi, .slice x.da x.dn x.dc, .slice x.wa x.wn x.wc, .int .i64 x.c.len, .int .i64 x.c.str] from hw5 ▸ Blk.new _ _ _)
      obtain ⟨w6, r6, hM6, hG6⟩ := (KM.out.ext E5.out).store hin (by omega) true
      have hmlt := KM.out.lt
      have L1 := Lib.hid ((K1.out.ext E5.out).grown hG6 (by intro e; injection e with e; omega))
      have L3 := Lib.hid ((K3.out.ext E5.out).grown hG6 (by intro e; injection e with e; omega))
      have L5 := Lib.hid (HB5.out.grown hG6 (by intro e; injection e with e; omega))
      have HE6 := Lib.hid (show Ext w w6 from ext_grown (HW.out.trans E5.out) hG6 (by omega))
      have HM6 := Lib.hid hM6
      have hw5s : w5.heap.size = wr.heap.size + 1 := by rw [hw5]; simp
      have d3 := (K3.out.ext E5.out).c4
      have d4 := L3.out.c4
      have d0 := L5.out.cell 0
      have d1 := L5.out.cell 1
      have d2 := L5.out.cell 2
      have d3' := L5.out.cell 3
      have d4' := L5.out.cell 4
      have d5 := L5.out.cell 5
      have dl := L5.out.lt
      simp at d0 d1 d2 d3' d4' d5
      clear hcell hx hG6 hM6
      subst hw5
      go_wp2_with fail
      refine (kindC_any x.c.b 1 _ _ _ (HT.out.ext HE6.out) (HX.out.1.ext HE6.out) (HX.out.2.ext HE6.out)).mono ?_
      rintro e w7 ⟨rfl, hE⟩
      have HE7 := Lib.hid (HE6.out.trans hE)
      have HM7 := Lib.hid (HM6.out.ext hE)
      have J1 := Lib.hid (L1.out.ext hE)
      have J3 := Lib.hid (L3.out.ext hE)
      have HFB := Lib.hid (show fitB x.c = (decide (askE x.c.b (inB 1 4 1) 32 = 0) && decide (kindB x.c.b 1 = 2)) from rfl)
      generalize askE x.c.b (inB 1 4 1) 32 = E at *
      generalize kindB x.c.b 1 = K at *
      clear hE c0 c1 c2 c3 c4 c5 c6 c7 d0 d1 d2 d3 d4 d3' d4' d5 dl r6 L1 L3 L5 K1 K3 HM6 HE6
      have d4 := J3.out.c4
      obtain ⟨w8, r8, hM8, hG8⟩ := HM7.out.dropB hin 0
      have hm7 := HM7.out.lt
      have N1 := Lib.hid (J1.out.grown hG8 (by intro e; injection e with e; omega))
      have N3 := Lib.hid (J3.out.grown hG8 (by intro e; injection e with e; omega))
      have HE8 := Lib.hid (show Ext w w8 from ext_grown HE7.out hG8 (by omega))
      have HM8 := Lib.hid hM8
      clear hM8 hG8
      by_cases hE0 : E = 0
      · subst hE0
        by_cases hK2 : K = 2
        · subst hK2
          have HQ := Lib.hid (show (fun z => if z = (kk : Int) then true else fitTo l kk z) = fitTo l (kk + 1) by rw [← HFT.out, show fitB x.c = true from HFB.out])
          clear r8
          go_wp2
          go_roundg (n - (kk + 1))
          case measure => omega
          case rel => exact ⟨kk + 1, by omega, by omega, by simp, J1.out, J3.out, by rw [← HQ.out]; exact HM7.out, HE7.out⟩
        · have hKb : (K == 2) = false := by simpa using hK2
          have HQ := Lib.hid (show (fun z => if z = (kk : Int) then false else if z = (kk : Int) then true else fitTo l kk z) = fitTo l (kk + 1) by
            rw [← HFT.out, show fitB x.c = false by rw [HFB.out]; simpa using hK2]
            funext z; split <;> rfl)
          go_wp2
          go_roundg (n - (kk + 1))
          case measure => omega
          case rel => exact ⟨kk + 1, by omega, by omega, by simp, N1.out, N3.out, by rw [← HQ.out]; exact HM8.out, HE8.out⟩
      · have hEb : (E == 0) = false := by simpa using hE0
        have HQ := Lib.hid (show (fun z => if z = (kk : Int) then false else if z = (kk : Int) then true else fitTo l kk z) = fitTo l (kk + 1) by
          rw [← HFT.out, show fitB x.c = false by rw [HFB.out, decide_eq_false hE0]; rfl]
          funext z; split <;> rfl)
        go_wp2
        go_roundg (n - (kk + 1))
        case measure => omega
        case rel => exact ⟨kk + 1, by omega, by omega, by simp, N1.out, N3.out, by rw [← HQ.out]; exact HM8.out, HE8.out⟩
    · have hke : kk = n := by omega
      subst hke
      have HN := Lib.hid (show MapB wr (w.heap.size + 1 + 1) kk (fitTo l l.length) by rw [HL.out]; exact KM.out)
      obtain ⟨a0, a1, a2, a3, af, al⟩ := K3.out.c4
      obtain ⟨z0, z1, z2, z3, zf, zl⟩ := K1.out.c4
      have HNE := Lib.hid hnb
      go_wp2
      refine ret_set4 K1.out fun W' ⟨b0, b1, b2, b3⟩ hW => ?_
      refine bodyPost_ret (v := valT lots size (.slice A kk c) (w.heap.size + 1 + 1)) (by simp [results, Tryz.results51, go_sem, b0, b1, b2, b3]) rfl ?_
      exact ⟨⟨_, kk, rfl, by omega, HNE.out, HN.out.at_ (hW.block _ HN.out.lt (by intro e; injection e with e; omega))⟩, ext_grownP HW.out hW (by omega)⟩
/-- What full lots have. -/
abbrev fl (lt : Nat) (size : Int) (i : Nat) : Int := if i < lt then size else 0
abbrev valF (f0 f1 f2 : Int) : Value := .agg #[.int .i64 f0, .int .i64 f1, .int .i64 f2]
set_option maxHeartbeats 2000000 in
theorem full_any (lt : Nat) (size : Int) (sv : Value) (A : Option Addr) (n c m : Nat) (hsv : sv = .slice A n c) (h3 : lt ≤ 3) (w : World) :
    Calls Tryz.prog 108 #[valT (lt : Int) size sv m] w fun e w' => (∃ f0 f1 f2, e = .returned (valF f0 f1 f2) ∧ [f0, f1, f2] = fullF lt size) ∧ Ext w w' := by
  subst hsv
  have HFF := Lib.hid (show [fl lt size 0, fl lt size 1, fl lt size 2] = fullF lt size from rfl)
  go_enter Tryz.func108, Tryz.ntmps108
  go_wp2
  obtain ⟨w4, hw4⟩ : ∃ w4, w4 = (((w.alloc (.cells #[.int .i64 (lt : Int), .int .i64 size, .slice A n c, .map (some m)] 95)).alloc (.cells #[.int .i64 0, .int .i64 0, .int .i64 0] 176)).alloc (.cells #[.int .i64 0, .int .i64 0, .int .i64 0] 176)) := ⟨_, rfl⟩
  rw [← hw4]
  have B0 := Lib.hid (show Blk w4 w.heap.size 95 #[.int .i64 (lt : Int), .int .i64 size, .slice A n c, .map (some m)] from hw4 ▸ ((Blk.new _ _ _).alloc _).alloc _)
  have B1 := Lib.hid (show Blk w4 (w.heap.size + 1) 176 #[.int .i64 0, .int .i64 0, .int .i64 0] from hw4 ▸ (Blk.at_ (by simp)).alloc _)
  have B2 := Lib.hid (show Blk w4 (w.heap.size + 1 + 1) 176 #[.int .i64 (fl 0 size 0), .int .i64 (fl 0 size 1), .int .i64 (fl 0 size 2)] from hw4 ▸ (Blk.at_ (by simp)))
  have E4 := Lib.hid (show Ext w w4 from hw4 ▸ ((Ext.al _ _).alloc _).alloc _)
  clear hw4
  go_loopg [8] lt (fun gg s8 wr => ∃ k : Nat, s8 = .int .i64 (k : Int) ∧ k ≤ lt ∧ lt - k ≤ gg ∧ Aside (Blk wr w.heap.size 95 #[.int .i64 (lt : Int), .int .i64 size, .slice A n c, .map (some m)]) ∧ Aside (Blk wr (w.heap.size + 1) 176 #[.int .i64 0, .int .i64 0, .int .i64 0]) ∧ Aside (Blk wr (w.heap.size + 1 + 1) 176 #[.int .i64 (fl k size 0), .int .i64 (fl k size 1), .int .i64 (fl k size 2)]) ∧ Aside (Ext w wr))
  case atStart => exact ⟨0, by simp, by omega, by omega, B0.out, B1.out, B2.out, E4.out⟩
  case round =>
    obtain ⟨k, rfl, hk, hgg, K0, K1, K2, KE⟩ := hrel
    clear B0 B1 B2 E4
    obtain ⟨a0, a1, a2, a3, af, al⟩ := K0.out.c4
    obtain ⟨d0, d1, d2, df, dl⟩ := K2.out.c3
    by_cases hkl : k < lt
    · have hkz : (k : Int) < (lt : Int) := by omega
      have hk3 : k = 0 ∨ k = 1 ∨ k = 2 := by omega
      rcases hk3 with rfl | rfl | rfl
      · go_wp2
        go_roundg (lt - (0 + 1))
        case measure => omega
        case rel => exact ⟨0 + 1, by simp, by omega, by omega, K0.out.far (by dsimp only; omega) _, K1.out.far (by dsimp only; omega) _, by have := K2.out.set_ 0 (.int .i64 size); show Blk _ _ _ _; simpa [fl] using this, KE.out.setCell (by dsimp only; omega) _⟩
      · go_wp2
        go_roundg (lt - (1 + 1))
        case measure => omega
        case rel => exact ⟨1 + 1, by simp, by omega, by omega, K0.out.far (by dsimp only; omega) _, K1.out.far (by dsimp only; omega) _, by have := K2.out.set_ 1 (.int .i64 size); show Blk _ _ _ _; simpa [fl] using this, KE.out.setCell (by dsimp only; omega) _⟩
      · go_wp2
        go_roundg (lt - (2 + 1))
        case measure => omega
        case rel => exact ⟨2 + 1, by simp, by omega, by omega, K0.out.far (by dsimp only; omega) _, K1.out.far (by dsimp only; omega) _, by have := K2.out.set_ 2 (.int .i64 size); show Blk _ _ _ _; simpa [fl] using this, KE.out.setCell (by dsimp only; omega) _⟩
    · have hke : k = lt := by omega
      subst hke
      obtain ⟨z0, z1, z2, zf, zl⟩ := K1.out.c3
      go_wp2
      refine ret_set3 K1.out fun W' ⟨b0, b1, b2⟩ hW => ?_
      refine bodyPost_ret (v := valF (fl k size 0) (fl k size 1) (fl k size 2)) (by simp only [results, Tryz.results108]; simp [go_sem, b0, b1, b2]) rfl ?_
      exact ⟨⟨_, _, _, rfl, HFF.out⟩, ext_grownP KE.out hW (by omega)⟩
end Go.Proofs.YtkpengeaolcjhaaGreatDoor
/- The reference's look: all plans from a bale on; the best is kept. -/
namespace Go.Proofs.YtkpengeaolcjhaaGreatDoor
open Go.RowKit Go.Shelf Go.Lib
set_option maxRecDepth 100000
set_option linter.unusedSimpArgs false

abbrev LkT := List Int × (Int × Int) × Bool
/-- The counts of lots that there are not are nothing. -/
def Cnt (lt : Nat) (size f0 f1 f2 : Int) : Prop := (0 ≤ f0 ∧ f0 ≤ size ∧ 0 ≤ f1 ∧ f1 ≤ size ∧ 0 ≤ f2 ∧ f2 ≤ size) ∧ (lt ≤ 1 → f1 = 0) ∧ (lt ≤ 2 → f2 = 0)
/-- A list that lies outside of three blocks. -/
def SlO (g : Nat) (W : World) (v : Value) (p : List Int) : Prop := SlI W v p ∧ ∀ b o n c, v = .slice (some ⟨b, o, none⟩) n c → 0 < p.length → g + 3 ≤ b
theorem Sl.gap {α : Type} {enc : α → List Value} {sz lo hi : Nat} {A B : World} {a : Option Addr} {n c : Nat} {l : List α} (h : Sl enc sz A (.slice a n c) l) (k : Gap lo hi A B) (hx : 0 < l.length → ∀ b o, a = some ⟨b, o, none⟩ → b < lo ∨ hi ≤ b) : Sl enc sz B (.slice a n c) l := by
  obtain ⟨a', c', hv, hl, hc, hcell⟩ := h
  injection hv with e1 e2 e3
  subst e1 e2 e3
  refine ⟨_, _, rfl, hl, hc, fun h0 => ?_⟩
  obtain ⟨b, off, hA, hb, hcell⟩ := hcell h0
  exact ⟨b, off, hA, Nat.lt_of_lt_of_le hb k.size, fun i x hi j u hu => (World.cell?_of_block (a := ⟨b, _, none⟩) (k.block b hb (hx h0 _ _ hA))).trans (hcell i x hi j u hu)⟩
theorem SlO.gap {g : Nat} {W W' : World} {v : Value} {p : List Int} (h : SlO g W v p) (k : Gap g (g + 3) W W') : SlO g W' v p := by
  obtain ⟨A, n, c, rfl, -, -, -⟩ := h.1.form
  exact ⟨h.1.gap k fun h0 b o e => .inr (h.2 b o n c (by rw [e]) h0), h.2⟩
theorem SlO.ext {g : Nat} {W W' : World} {v : Value} {p : List Int} (h : SlO g W v p) (k : Ext W W') : SlO g W' v p := ⟨h.1.ext k, h.2⟩
theorem SlO.nil (g : Nat) (W : World) : SlO g W (.slice none 0 0) [] := ⟨Sl.nil W, fun b o n c e h => by simp at h⟩
theorem SlO.own {g base : Nat} {W : World} {v : Value} {p : List Int} (h : Own encI 3 1 W base v p) (hb : g + 3 ≤ base) : SlO g W v p := by
  refine ⟨h.sl (fun _ => rfl), fun b o n c e h0 => ?_⟩
  rcases own_formG h with ⟨-, h1⟩ | ⟨g', cap, cur, h1, h3, -⟩
  · rw [h1] at h0; simp at h0
  · rw [h1] at e; injection e with e; injection e with e; injection e with e; omega
/-- The three blocks in which the best is kept. -/
structure Lk (g : Nat) (s : LkT) (W : World) : Prop where
  best : ∃ v, Blk W g 36 #[v] ∧ SlO g W v s.1
  even : Blk W (g + 1) 109 #[.int .i64 s.2.1.1, .int .i64 s.2.1.2]
  found : Blk W (g + 1 + 1) 4 #[.bool s.2.2]
theorem Lk.ext {g : Nat} {s : LkT} {W W' : World} (h : Lk g s W) (k : Ext W W') : Lk g s W' := by
  obtain ⟨⟨v, h1, h2⟩, h3, h4⟩ := h
  exact ⟨⟨v, h1.ext k, h2.ext k⟩, h3.ext k, h4.ext k⟩
/-- A mill's lists that lie outside of three blocks. -/
def MlO (g : Nat) (W : World) (v : Value) (l : List Rc) : Prop := MlC W v l ∧ ∀ A n c, v = .slice A n c → (0 < l.length → ∀ b o, A = some ⟨b, o, none⟩ → b < g)  ∧ ∀ r ∈ l, (0 < r.c.b.draws.length → ∀ b o, r.da = some ⟨b, o, none⟩ → b < g) ∧ (0 < r.c.b.weighs.length → ∀ b o, r.wa = some ⟨b, o, none⟩ → b < g)
theorem MlO.gap {g hi : Nat} {W W' : World} {v : Value} {l : List Rc} (h : MlO g W v l) (k : Gap g hi W W') : MlO g W' v l := by
  obtain ⟨A, n, c, rfl, -, -, -⟩ := h.1.1.form
  obtain ⟨h1, h2⟩ := h.2 A n c rfl
  refine ⟨⟨h.1.1.gap k fun h0 b o e => .inl (h1 h0 b o e), fun r hr => ⟨(h.1.2 r hr).1.gap k fun h0 b o e => .inl ((h2 r hr).1 h0 b o e), (h.1.2 r hr).2.gap k fun h0 b o e => .inl ((h2 r hr).2 h0 b o e)⟩⟩, h.2⟩
theorem MlO.ext {g : Nat} {W W' : World} {v : Value} {l : List Rc} (h : MlO g W v l) (k : Ext W W') : MlO g W' v l := ⟨h.1.ext k, h.2⟩
/-- What lies in memory already lies outside of what comes. -/
theorem sl_old {α : Type} {enc : α → List Value} {sz : Nat} {w : World} {A : Option Addr} {n c : Nat} {l : List α} (h : Sl enc sz w (.slice A n c) l) : 0 < l.length → ∀ b o, A = some ⟨b, o, none⟩ → b < w.heap.size := by
  intro h0 b o e
  obtain ⟨a', c', hv, -, -, hx⟩ := h
  injection hv with e1 e2 e3
  subst e1 e2 e3
  obtain ⟨b', off, hA, hb, -⟩ := hx h0
  rw [e] at hA
  injection hA with hA
  injection hA with hA
  omega
theorem MlO.of {w : World} {v : Value} {l : List Rc} (h : MlC w v l) : MlO w.heap.size w v l := ⟨h, fun _ _ _ e => ⟨sl_old (e ▸ h.1), fun r hr => ⟨sl_old (h.2 r hr).1, sl_old (h.2 r hr).2⟩⟩⟩
theorem MlO.mono {g g' : Nat} {w : World} {v : Value} {l : List Rc} (h : MlO g w v l) (hg : g ≤ g') : MlO g' w v l := ⟨h.1, fun A n c e => ⟨fun h0 b o e2 => Nat.lt_of_lt_of_le ((h.2 A n c e).1 h0 b o e2) hg, fun r hr => ⟨fun h0 b o e2 => Nat.lt_of_lt_of_le (((h.2 A n c e).2 r hr).1 h0 b o e2) hg, fun h0 b o e2 => Nat.lt_of_lt_of_le (((h.2 A n c e).2 r hr).2 h0 b o e2) hg⟩⟩⟩

/-! The three stores, in whatever order. -/
structure LkC (g : Nat) (w8 W : World) : Prop where
  gap : Gap g (g + 3) w8 W
  a : ∃ x, Blk W g 36 #[x]
  b : ∃ x y, Blk W (g + 1) 109 #[x, y]
  c : ∃ x, Blk W (g + 1 + 1) 4 #[x]
structure LkR (g : Nat) (v x y z : Value) (W W' : World) : Prop where
  a : Blk W g 36 #[v] → Blk W' g 36 #[v]
  b : Blk W (g + 1) 109 #[x, y] → Blk W' (g + 1) 109 #[x, y]
  c : Blk W (g + 1 + 1) 4 #[z] → Blk W' (g + 1 + 1) 4 #[z]
theorem LkR.refl {g : Nat} {v x y z : Value} (W : World) : LkR g v x y z W W := ⟨id, id, id⟩
theorem LkC.start {g : Nat} {s : LkT} {W : World} (h : Lk g s W) : LkC g W W := by
  obtain ⟨⟨v, h1, -⟩, h2, h3⟩ := h
  exact ⟨Gap.refl _ _ _, ⟨_, h1⟩, ⟨_, _, h2⟩, ⟨_, h3⟩⟩
section
variable {g : Nat} {w8 W : World} (h : LkC g w8 W) (v x y z : Value)
include h
theorem LkC.s0 : CR (LkC g w8) (LkR g v x y z) W (W.setCell ⟨g, 0, none⟩ v) ∧ Blk (W.setCell ⟨g, 0, none⟩ v) g 36 #[v] := by
  obtain ⟨h1, ⟨a, h2⟩, ⟨b, c, h3⟩, ⟨d, h4⟩⟩ := h
  have hB : Blk (W.setCell ⟨g, 0, none⟩ v) g 36 #[v] := by have := h2.set_ 0 v; simpa using this
  exact ⟨⟨⟨h1.setCell (by dsimp only; omega) (by dsimp only; omega) _, ⟨_, hB⟩, ⟨_, _, h3.far (by dsimp only; omega) _⟩, ⟨_, h4.far (by dsimp only; omega) _⟩⟩, ⟨fun _ => hB, fun k => k.far (by dsimp only; omega) _, fun k => k.far (by dsimp only; omega) _⟩⟩, hB⟩
theorem LkC.s1 : CR (LkC g w8) (LkR g v x y z) W ((W.setCell ⟨g + 1, 0, none⟩ x).setCell ⟨g + 1, 1, none⟩ y) ∧ Blk ((W.setCell ⟨g + 1, 0, none⟩ x).setCell ⟨g + 1, 1, none⟩ y) (g + 1) 109 #[x, y] := by
  obtain ⟨h1, ⟨a, h2⟩, ⟨b, c, h3⟩, ⟨d, h4⟩⟩ := h
  have hB := h3.set2 x y
  exact ⟨⟨⟨(h1.setCell (by dsimp only; omega) (by dsimp only; omega) _).setCell (by dsimp only; omega) (by dsimp only; omega) _, ⟨_, (h2.far (by dsimp only; omega) _).far (by dsimp only; omega) _⟩, ⟨_, _, hB⟩, ⟨_, (h4.far (by dsimp only; omega) _).far (by dsimp only; omega) _⟩⟩, ⟨fun k => (k.far (by dsimp only; omega) _).far (by dsimp only; omega) _, fun _ => hB, fun k => (k.far (by dsimp only; omega) _).far (by dsimp only; omega) _⟩⟩, hB⟩
theorem LkC.s2 : CR (LkC g w8) (LkR g v x y z) W (W.setCell ⟨g + 1 + 1, 0, none⟩ z) ∧ Blk (W.setCell ⟨g + 1 + 1, 0, none⟩ z) (g + 1 + 1) 4 #[z] := by
  obtain ⟨h1, ⟨a, h2⟩, ⟨b, c, h3⟩, ⟨d, h4⟩⟩ := h
  have hB : Blk (W.setCell ⟨g + 1 + 1, 0, none⟩ z) (g + 1 + 1) 4 #[z] := by have := h4.set_ 0 z; simpa using this
  exact ⟨⟨⟨h1.setCell (by dsimp only; omega) (by dsimp only; omega) _, ⟨_, h2.far (by dsimp only; omega) _⟩, ⟨_, _, h3.far (by dsimp only; omega) _⟩, ⟨_, hB⟩⟩, ⟨fun k => k.far (by dsimp only; omega) _, fun k => k.far (by dsimp only; omega) _, fun _ => hB⟩⟩, hB⟩
end
end Go.Proofs.YtkpengeaolcjhaaGreatDoor
