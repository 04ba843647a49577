/- core.kind. -/
import Derived.Test.YtkpengeaolcjhaaGreatDoorPkMlBoundsCardB
import Derived.WalkMore
import Derived.RegionTactic
namespace Go.Proofs.YtkpengeaolcjhaaGreatDoor
open Go.RowKit Go.Shelf
set_option maxRecDepth 100000
set_option linter.unusedSimpArgs false

def innerL (l : List Int) : List Int := (l.drop 1).take (l.length - 2)
def firstL (l : List Int) : Int := (l[0]?).getD 0
def lastL (l : List Int) : Int := (l[l.length - 1]?).getD 0
def worseL (l : List Int) : Int := max (firstL l) (lastL l)
/-- The kind of a bale by the grades of its layers. -/
def kindL (l : List Int) : Int :=
  if alikeL l then 1 else if 0 < (cutsL l).length then 2 else
  if (alikeL [firstL l, lastL l] && decide (worseL l ≤ mins (innerL l))) && decide (worseL l + 2 ≤ maxs l) then 3 else 4
theorem long_of {l : List Int} (h0 : 0 < l.length) (h1 : alikeL l = false) (h2 : (cutsL l).length = 0) : 3 ≤ l.length := by
  match l, h0 with
  | [x], _ => simp [alikeL, maxs, mins] at h1
  | [x, y], _ =>
    unfold cutsL at h2
    rw [h1] at h2
    simp [cutsTo, cutAt, alikeL, maxs, mins] at h2
  | x :: y :: z :: l, _ => simp
/-- A slice of two fresh numbers. -/
def TwoAt (x y : Int) (v : Value) (W : World) : Prop := ∃ b', v = .slice (some ⟨b', 0, none⟩) 2 2 ∧ W.cell? ⟨b', 0, none⟩ = some (.int .i64 x) ∧ W.cell? ⟨b', 1, none⟩ = some (.int .i64 y) ∧ b' < W.heap.size
theorem TwoAt.ext {x y : Int} {v : Value} {W W' : World} (h : TwoAt x y v W) (e : Ext W W') : TwoAt x y v W' := by
  obtain ⟨b', h1, h2, h4, h3⟩ := h
  exact ⟨b', h1, (e.cells.1 _ _ h3).trans h2, (e.cells.1 _ _ h3).trans h4, Nat.lt_of_lt_of_le h3 e.size⟩
theorem TwoAt.sl {x y : Int} {v : Value} {W : World} (h : TwoAt x y v W) : SlI W v [x, y] := by
  obtain ⟨b', h1, h2, h4, h3⟩ := h
  refine ⟨_, 2, h1, by simp, by decide, fun _ => ⟨b', 0, rfl, h3, fun i z hi j u hu => ?_⟩⟩
  match i, hi with
  | 0, hi =>
    simp at hi; subst hi
    cases j with
    | zero => simp at hu; subst hu; simpa using h2
    | succ j => simp at hu
  | 1, hi =>
    simp at hi; subst hi
    cases j with
    | zero => simp at hu; subst hu; simpa using h4
    | succ j => simp at hu

set_option maxHeartbeats 2000000 in
theorem kind_any (l : List Int) (v : Value) (w : World) (hs : SlI w v l) (h0 : 0 < l.length) (hlen : l.length ≤ 1000) (hb : Small l) :
    Calls Tryz.prog 138 #[v] w fun e w' => e = .returned (.int .i64 (kindL l)) ∧ Ext w w' := by
  have HS := Lib.hid hs
  obtain ⟨A, n, c, rfl, hn, hlc, hcm⟩ := hs.form
  obtain ⟨m, rfl⟩ : ∃ m, n = m + 1 := ⟨n - 1, by have := hn.out; omega⟩
  obtain ⟨b, off, x, rfl, hx, -, hcell⟩ := hs.at_ (show 0 < m + 1 by omega)
  obtain ⟨b', off', y, e1, hy, -, hcell'⟩ := hs.at_ (show m < m + 1 by omega)
  injection e1 with e1
  injection e1 with e1 e2
  subst e1 e2
  have HF := Lib.hid (show firstL l = x by unfold firstL; rw [hx]; rfl)
  have HLA := Lib.hid (show lastL l = y by unfold lastL; rw [show l.length - 1 = m by have := hn.out; omega, hy]; rfl)
  have HWO := Lib.hid (show worseL l = max x y by unfold worseL; rw [HF.out, HLA.out])
  have hm1000 : m + 1 ≤ 1000 := by have := hn.out; omega
  have hbx := hb x (List.mem_of_getElem? hx)
  have hby := hb y (List.mem_of_getElem? hy)
  have c0 := fun W (h : Ext w W) => SlI.cell hcell h
  have c1 := fun W (h : Ext w W) => SlI.cell hcell' h
  have HB := Lib.hid hb; have H0 := Lib.hid h0; have HLE := Lib.hid hlen
  clear hs hb h0 hlen hx hy hcell hcell'
  simp only [Nat.add_zero] at c0
  have hnz : (0 : Int) < (m : Int) + 1 := by omega
  have hm0 : (0 : Int) ≤ (m : Int) := by omega
  have hm1 : (m : Int) < (m : Int) + 1 := by omega
  have hwr : IntKind.i64.wrap (m : Int) = (m : Int) := by simp [IntKind.wrap, IntKind.signed, IntKind.bits]; omega
  go_enter Tryz.func138, Tryz.ntmps138
  go_wp2
  refine wp_region_tame (fun W => Ext w W) (fun W W' => Ext W W') (by kernel_rfl) 49 rfl (by decide +kernel) (Ext.refl _).drew ?_
  repeat (apply tame_q rfl; (intro ρ W hC hr hD; (obtain ⟨hrc, hrg, hrf, hrs⟩ := hr); (simp [go_sem] at hD); go_simp; first | exact ⟨⟨hC, Ext.refl _⟩, rfl⟩ | exact ⟨⟨hC, RS.refl _⟩, rfl⟩ | exact rfl); simp only [List.nil_append, List.cons_append])
  refine tame_end 49 rfl rfl (fun ρ W hC hr hF => ?_)
  obtain ⟨hrc, hrg, hrf, hrs⟩ := hr
  simp [go_sem] at hF
  apply frame_to
  · go_simp
    exact rfl
  clear hF hrs hrc hrg hrf
  have E1 := Lib.hid hC; clear hC
  generalize hwo : max x y = wo at HWO
  have hwb : -1000000 ≤ wo ∧ wo ≤ 1000000 := by omega
  clear hwo
  go_wp2_with fail
  refine (alike_any l _ _ (HS.out.ext E1.out) H0.out HB.out).mono ?_
  rintro e w2 ⟨rfl, hE⟩
  have E2 := Lib.hid (E1.out.trans hE); clear hE
  cases hal : alikeL l with
  | true =>
    have HK := Lib.hid (show kindL l = 1 by unfold kindL; rw [if_pos hal])
    clear hal
    go_wp2
    go_ret
    exact ⟨by rw [HK.out]; rfl, E2.out⟩
  | false =>
    have HAL := Lib.hid hal; clear hal
    go_wp2_with fail
    refine (cuts_any l _ _ (HS.out.ext E2.out) H0.out HLE.out HB.out).mono ?_
    rintro e w3 ⟨v', rfl, hv', hE⟩
    have E3 := Lib.hid (E2.out.trans hE); clear hE
    obtain ⟨A3, n3, c3, rfl, hn3, hlc3, hcm3⟩ := hv'.form
    clear hv'
    by_cases h3 : 0 < n3
    · have HK := Lib.hid (show kindL l = 2 by unfold kindL; rw [if_neg (by rw [HAL.out]; simp), if_pos (by have := hn3.out; omega)])
      have h3z : (0 : Int) < (n3 : Int) := by omega
      go_wp2
      go_ret
      exact ⟨by rw [HK.out]; rfl, E3.out⟩
    · have h3z : ¬ (0 : Int) < (n3 : Int) := by omega
      have hlong := long_of H0.out HAL.out (by have := hn3.out; omega)
      have HKE := Lib.hid (show kindL l = if (alikeL [x, y] && decide (wo ≤ mins (innerL l))) && decide (wo + 2 ≤ maxs l) then 3 else 4 by
        unfold kindL; rw [if_neg (by rw [HAL.out]; simp), if_neg (by have := hn3.out; omega), HF.out, HLA.out, HWO.out])
      have hm2 : 2 ≤ m := by have := hn.out; omega
      have hm2z : (1 : Int) ≤ (m : Int) := by omega
      have hmc : (m : Int) ≤ (c : Int) := by omega
      have hc1 : ¬ c = 1 := by omega
      have hw2 : IntKind.i64.wrap (wo + 2) = wo + 2 := by simp [IntKind.wrap, IntKind.signed, IntKind.bits]; omega
      have TL := Lib.hid (HS.out.ext E3.out)
      have TI := Lib.hid (show SlI w3 (.slice (some ⟨b, off + 1, none⟩) (m - 1) (c - 1)) (innerL l) by
        unfold innerL
        rw [show l.length - 2 = m - 1 by have := hn.out; omega]
        exact (TL.out.drop (k := 1) (c' := c - 1) (by omega) (by unfold maxLen; omega)).take (by omega) (by omega) (by unfold maxLen; omega))
      have LI := Lib.hid (show 0 < (innerL l).length by unfold innerL; rw [List.length_take, List.length_drop]; omega)
      have HXY := Lib.hid (show Small [x, y] from fun z hz => by simp at hz; rcases hz with rfl | rfl <;> assumption)
      have k0 := fun W (h : Ext w3 W) => c0 W (E3.out.trans h)
      have k1 := fun W (h : Ext w3 W) => c1 W (E3.out.trans h)
      clear c0 c1 hlong
      cases ha2 : alikeL [x, y] with
      | false =>
        have HA2 := Lib.hid ha2
        have HK := Lib.hid (show kindL l = 4 by rw [HKE.out, ha2]; rfl)
        clear ha2
        go_wp2
        refine wp_region_tame (fun W => Ext w3 W) (fun W W' => Ext W W') (by kernel_rfl) 49 rfl (by decide +kernel) (Ext.refl _).drew ?_
        repeat (apply tame_q rfl; (intro ρ W hC hr hD; (obtain ⟨hrc, hrg, hrf, hrs⟩ := hr); (simp [go_sem] at hD); go_simp; first | exact ⟨⟨hC, Ext.refl _⟩, rfl⟩ | exact ⟨⟨hC, RS.refl _⟩, rfl⟩ | exact rfl); simp only [List.nil_append, List.cons_append])
        apply tame_v rfl (TwoAt x y) (fun v W W' _ hE h => h.ext hE)
        · intro ρ W hC hr hD
          obtain ⟨hrc, hrg, hrf, hrs⟩ := hr
          simp [go_sem] at hD
          go_simp
          exact ⟨⟨hC.alloc _, Ext.al _ _⟩, ⟨_, rfl, by simp [go_sem], by simp [go_sem], by simp⟩⟩
        simp only [List.nil_append, List.cons_append]
        apply tame_q (v0 := .bool false) rfl
        · intro ρ W hC hr hD
          obtain ⟨hrc, hrg, hrf, hrs⟩ := hr
          simp [go_sem] at hD
          go_simp
          refine (alike_any [x, y] _ _ hD.sl (by simp) HXY.out).mono ?_
          rintro e w' ⟨rfl, hE⟩
          rw [HA2.out]
          exact ⟨_, rfl, ⟨hC.trans hE, hE⟩, rfl⟩
        simp only [List.nil_append, List.cons_append]
        repeat (apply tame_q rfl; (intro ρ W hC hr hD; (obtain ⟨hrc, hrg, hrf, hrs⟩ := hr); (simp [go_sem] at hD); go_simp; first | exact ⟨⟨hC, Ext.refl _⟩, rfl⟩ | exact ⟨⟨hC, RS.refl _⟩, rfl⟩ | exact rfl); simp only [List.nil_append, List.cons_append])
        refine tame_end 49 rfl rfl (fun ρ W hC hr hF => ?_)
        obtain ⟨hrc, hrg, hrf, hrs⟩ := hr
        simp [go_sem] at hF
        obtain ⟨b32, e32, -, -, -⟩ := hF.2.2.2.2.2.2.2.1
        apply frame_to
        · go_simp
          exact rfl
        clear hF hrs hrc hrg hrf
        go_wp2
        go_ret
        exact ⟨by rw [HK.out]; rfl, E3.out.trans hC⟩
      | true =>
        have HA2 := Lib.hid ha2
        clear ha2
        by_cases hmi : wo ≤ mins (innerL l)
        · by_cases hma : wo + 2 ≤ maxs l
          · have HK := Lib.hid (show kindL l = 3 by rw [HKE.out, HA2.out, decide_eq_true hmi, decide_eq_true hma]; rfl)
            go_wp2
            refine wp_region_tame (fun W => Ext w3 W) (fun W W' => Ext W W') (by kernel_rfl) 49 rfl (by decide +kernel) (Ext.refl _).drew ?_
            repeat (apply tame_q rfl; (intro ρ W hC hr hD; (obtain ⟨hrc, hrg, hrf, hrs⟩ := hr); (simp [go_sem] at hD); go_simp; first | exact ⟨⟨hC, Ext.refl _⟩, rfl⟩ | exact ⟨⟨hC, RS.refl _⟩, rfl⟩ | exact rfl); simp only [List.nil_append, List.cons_append])
            apply tame_v rfl (TwoAt x y) (fun v W W' _ hE h => h.ext hE)
            · intro ρ W hC hr hD
              obtain ⟨hrc, hrg, hrf, hrs⟩ := hr
              simp [go_sem] at hD
              go_simp
              exact ⟨⟨hC.alloc _, Ext.al _ _⟩, ⟨_, rfl, by simp [go_sem], by simp [go_sem], by simp⟩⟩
            simp only [List.nil_append, List.cons_append]
            apply tame_q (v0 := .bool true) rfl
            · intro ρ W hC hr hD
              obtain ⟨hrc, hrg, hrf, hrs⟩ := hr
              simp [go_sem] at hD
              go_simp
              refine (alike_any [x, y] _ _ hD.sl (by simp) HXY.out).mono ?_
              rintro e w' ⟨rfl, hE⟩
              rw [HA2.out]
              exact ⟨_, rfl, ⟨hC.trans hE, hE⟩, rfl⟩
            simp only [List.nil_append, List.cons_append]
            repeat (apply tame_q rfl; (intro ρ W hC hr hD; (obtain ⟨hrc, hrg, hrf, hrs⟩ := hr); (simp [go_sem] at hD); go_simp; first | exact ⟨⟨hC, Ext.refl _⟩, rfl⟩ | exact ⟨⟨hC, RS.refl _⟩, rfl⟩ | exact rfl); simp only [List.nil_append, List.cons_append])
            apply tame_q rfl
            · intro ρ W hC hr hD
              obtain ⟨hrc, hrg, hrf, hrs⟩ := hr
              simp [go_sem] at hD
              go_simp
              refine (f142_any (innerL l) _ _ (TI.out.ext hC) LI.out).mono ?_
              rintro e w' ⟨rfl, hE⟩
              exact ⟨_, rfl, ⟨hC.trans hE, hE⟩, rfl⟩
            simp only [List.nil_append, List.cons_append]
            repeat (apply tame_q rfl; (intro ρ W hC hr hD; (obtain ⟨hrc, hrg, hrf, hrs⟩ := hr); (simp [go_sem] at hD); go_simp; first | exact ⟨⟨hC, Ext.refl _⟩, rfl⟩ | exact ⟨⟨hC, RS.refl _⟩, rfl⟩ | exact rfl); simp only [List.nil_append, List.cons_append])
            apply tame_q rfl
            · intro ρ W hC hr hD
              obtain ⟨hrc, hrg, hrf, hrs⟩ := hr
              simp [go_sem] at hD
              go_simp
              refine (f141_any l _ _ (TL.out.ext hC) H0.out).mono ?_
              rintro e w' ⟨rfl, hE⟩
              exact ⟨_, rfl, ⟨hC.trans hE, hE⟩, rfl⟩
            simp only [List.nil_append, List.cons_append]
            repeat (apply tame_q rfl; (intro ρ W hC hr hD; (obtain ⟨hrc, hrg, hrf, hrs⟩ := hr); (simp [go_sem] at hD); go_simp; first | exact ⟨⟨hC, Ext.refl _⟩, rfl⟩ | exact ⟨⟨hC, RS.refl _⟩, rfl⟩ | exact rfl); simp only [List.nil_append, List.cons_append])
            refine tame_end 49 rfl rfl (fun ρ W hC hr hF => ?_)
            obtain ⟨hrc, hrg, hrf, hrs⟩ := hr
            simp [go_sem] at hF
            obtain ⟨b32, e32, -, -, -⟩ := hF.2.2.2.2.2.2.2.1
            apply frame_to
            · go_simp
              exact rfl
            clear hF hrs hrc hrg hrf
            go_wp2
            go_ret
            exact ⟨by rw [HK.out]; rfl, E3.out.trans hC⟩
          · have HK := Lib.hid (show kindL l = 4 by rw [HKE.out, decide_eq_false hma, Bool.and_false]; rfl)
            go_wp2
            refine wp_region_tame (fun W => Ext w3 W) (fun W W' => Ext W W') (by kernel_rfl) 49 rfl (by decide +kernel) (Ext.refl _).drew ?_
            repeat (apply tame_q rfl; (intro ρ W hC hr hD; (obtain ⟨hrc, hrg, hrf, hrs⟩ := hr); (simp [go_sem] at hD); go_simp; first | exact ⟨⟨hC, Ext.refl _⟩, rfl⟩ | exact ⟨⟨hC, RS.refl _⟩, rfl⟩ | exact rfl); simp only [List.nil_append, List.cons_append])
            apply tame_v rfl (TwoAt x y) (fun v W W' _ hE h => h.ext hE)
            · intro ρ W hC hr hD
              obtain ⟨hrc, hrg, hrf, hrs⟩ := hr
              simp [go_sem] at hD
              go_simp
              exact ⟨⟨hC.alloc _, Ext.al _ _⟩, ⟨_, rfl, by simp [go_sem], by simp [go_sem], by simp⟩⟩
            simp only [List.nil_append, List.cons_append]
            apply tame_q (v0 := .bool true) rfl
            · intro ρ W hC hr hD
              obtain ⟨hrc, hrg, hrf, hrs⟩ := hr
              simp [go_sem] at hD
              go_simp
              refine (alike_any [x, y] _ _ hD.sl (by simp) HXY.out).mono ?_
              rintro e w' ⟨rfl, hE⟩
              rw [HA2.out]
              exact ⟨_, rfl, ⟨hC.trans hE, hE⟩, rfl⟩
            simp only [List.nil_append, List.cons_append]
            repeat (apply tame_q rfl; (intro ρ W hC hr hD; (obtain ⟨hrc, hrg, hrf, hrs⟩ := hr); (simp [go_sem] at hD); go_simp; first | exact ⟨⟨hC, Ext.refl _⟩, rfl⟩ | exact ⟨⟨hC, RS.refl _⟩, rfl⟩ | exact rfl); simp only [List.nil_append, List.cons_append])
            apply tame_q rfl
            · intro ρ W hC hr hD
              obtain ⟨hrc, hrg, hrf, hrs⟩ := hr
              simp [go_sem] at hD
              go_simp
              refine (f142_any (innerL l) _ _ (TI.out.ext hC) LI.out).mono ?_
              rintro e w' ⟨rfl, hE⟩
              exact ⟨_, rfl, ⟨hC.trans hE, hE⟩, rfl⟩
            simp only [List.nil_append, List.cons_append]
            repeat (apply tame_q rfl; (intro ρ W hC hr hD; (obtain ⟨hrc, hrg, hrf, hrs⟩ := hr); (simp [go_sem] at hD); go_simp; first | exact ⟨⟨hC, Ext.refl _⟩, rfl⟩ | exact ⟨⟨hC, RS.refl _⟩, rfl⟩ | exact rfl); simp only [List.nil_append, List.cons_append])
            apply tame_q rfl
            · intro ρ W hC hr hD
              obtain ⟨hrc, hrg, hrf, hrs⟩ := hr
              simp [go_sem] at hD
              go_simp
              refine (f141_any l _ _ (TL.out.ext hC) H0.out).mono ?_
              rintro e w' ⟨rfl, hE⟩
              exact ⟨_, rfl, ⟨hC.trans hE, hE⟩, rfl⟩
            simp only [List.nil_append, List.cons_append]
            repeat (apply tame_q rfl; (intro ρ W hC hr hD; (obtain ⟨hrc, hrg, hrf, hrs⟩ := hr); (simp [go_sem] at hD); go_simp; first | exact ⟨⟨hC, Ext.refl _⟩, rfl⟩ | exact ⟨⟨hC, RS.refl _⟩, rfl⟩ | exact rfl); simp only [List.nil_append, List.cons_append])
            refine tame_end 49 rfl rfl (fun ρ W hC hr hF => ?_)
            obtain ⟨hrc, hrg, hrf, hrs⟩ := hr
            simp [go_sem] at hF
            obtain ⟨b32, e32, -, -, -⟩ := hF.2.2.2.2.2.2.2.1
            apply frame_to
            · go_simp
              exact rfl
            clear hF hrs hrc hrg hrf
            go_wp2
            go_ret
            exact ⟨by rw [HK.out]; rfl, E3.out.trans hC⟩
        · have HK := Lib.hid (show kindL l = 4 by rw [HKE.out, decide_eq_false hmi, Bool.and_false, Bool.false_and]; rfl)
          have hmi2 : decide (wo ≤ mins (innerL l)) = false := decide_eq_false hmi
          go_wp2
          refine wp_region_tame (fun W => Ext w3 W) (fun W W' => Ext W W') (by kernel_rfl) 49 rfl (by decide +kernel) (Ext.refl _).drew ?_
          repeat (apply tame_q rfl; (intro ρ W hC hr hD; (obtain ⟨hrc, hrg, hrf, hrs⟩ := hr); (simp [go_sem] at hD); go_simp; first | exact ⟨⟨hC, Ext.refl _⟩, rfl⟩ | exact ⟨⟨hC, RS.refl _⟩, rfl⟩ | exact rfl); simp only [List.nil_append, List.cons_append])
          apply tame_v rfl (TwoAt x y) (fun v W W' _ hE h => h.ext hE)
          · intro ρ W hC hr hD
            obtain ⟨hrc, hrg, hrf, hrs⟩ := hr
            simp [go_sem] at hD
            go_simp
            exact ⟨⟨hC.alloc _, Ext.al _ _⟩, ⟨_, rfl, by simp [go_sem], by simp [go_sem], by simp⟩⟩
          simp only [List.nil_append, List.cons_append]
          apply tame_q (v0 := .bool true) rfl
          · intro ρ W hC hr hD
            obtain ⟨hrc, hrg, hrf, hrs⟩ := hr
            simp [go_sem] at hD
            go_simp
            refine (alike_any [x, y] _ _ hD.sl (by simp) HXY.out).mono ?_
            rintro e w' ⟨rfl, hE⟩
            rw [HA2.out]
            exact ⟨_, rfl, ⟨hC.trans hE, hE⟩, rfl⟩
          simp only [List.nil_append, List.cons_append]
          repeat (apply tame_q rfl; (intro ρ W hC hr hD; (obtain ⟨hrc, hrg, hrf, hrs⟩ := hr); (simp [go_sem] at hD); go_simp; first | exact ⟨⟨hC, Ext.refl _⟩, rfl⟩ | exact ⟨⟨hC, RS.refl _⟩, rfl⟩ | exact rfl); simp only [List.nil_append, List.cons_append])
          apply tame_q rfl
          · intro ρ W hC hr hD
            obtain ⟨hrc, hrg, hrf, hrs⟩ := hr
            simp [go_sem] at hD
            go_simp
            refine (f142_any (innerL l) _ _ (TI.out.ext hC) LI.out).mono ?_
            rintro e w' ⟨rfl, hE⟩
            exact ⟨_, rfl, ⟨hC.trans hE, hE⟩, rfl⟩
          simp only [List.nil_append, List.cons_append]
          repeat (apply tame_q rfl; (intro ρ W hC hr hD; (obtain ⟨hrc, hrg, hrf, hrs⟩ := hr); (simp [go_sem] at hD); go_simp; first | exact ⟨⟨hC, Ext.refl _⟩, rfl⟩ | exact ⟨⟨hC, RS.refl _⟩, rfl⟩ | exact rfl); simp only [List.nil_append, List.cons_append])
          refine tame_end 49 rfl rfl (fun ρ W hC hr hF => ?_)
          obtain ⟨hrc, hrg, hrf, hrs⟩ := hr
          simp [go_sem] at hF
          obtain ⟨b32, e32, -, -, -⟩ := hF.2.2.2.2.2.2.2.1
          apply frame_to
          · go_simp
            exact rfl
          clear hF hrs hrc hrg hrf
          go_wp2
          go_ret
          exact ⟨by rw [HK.out]; rfl, E3.out.trans hC⟩
end Go.Proofs.YtkpengeaolcjhaaGreatDoor
/- The reference's kind of a bale by the grades of its layers. -/
namespace Go.Proofs.YtkpengeaolcjhaaGreatDoor
open Go.RowKit Go.Shelf
set_option maxRecDepth 100000
set_option linter.unusedSimpArgs false

def alikeR (l : List Int) : Bool := decide (l.foldl max 1 - l.foldl min 9 ≤ 1)
theorem fold_bd {l : List Int} (h : Small l) : -1000000 ≤ l.foldl max 1 ∧ l.foldl max 1 ≤ 1000000 ∧ -1000000 ≤ l.foldl min 9 ∧ l.foldl min 9 ≤ 1000000 := by
  have h1 := foldl_max_mem l 1
  have h2 := foldl_min_mem l 9
  rcases h1 with h1 | h1 <;> rcases h2 with h2 | h2
  · omega
  · have := h _ h2; omega
  · have := h _ h1; omega
  · have := h _ h1; have := h _ h2; omega

set_option maxHeartbeats 400000 in
theorem alikeR_any (l : List Int) (v : Value) (w : World) (hs : SlI w v l) (hb : Small l) :
    Calls Tryz.prog 168 #[v] w fun e w' => e = .returned (.bool (alikeR l)) ∧ Ext w w' := by
  obtain ⟨A, n, c, rfl, hn, hlc, hcm⟩ := hs.form
  have hbd := fold_bd hb
  clear hb
  go_enter Tryz.func168, Tryz.ntmps168
  go_wp2
  go_loopg [3, 4, 6, 9] n (fun gg s3 s4 _ s9 wr => ∃ kk : Nat, kk ≤ n ∧ n - kk ≤ gg ∧ s9 = .int .i64 kk ∧ s3 = .int .i64 ((l.take kk).foldl min 9) ∧ s4 = .int .i64 ((l.take kk).foldl max 1) ∧ Aside (Ext w wr))
  case atStart => exact ⟨0, by omega, by omega, rfl, rfl, rfl, Ext.refl w⟩
  case round =>
    obtain ⟨kk, hkk, hg, rfl, rfl, rfl, BW⟩ := hrel
    by_cases hlt : kk < n
    · have hltz : (kk : Int) < (n : Int) := by omega
      obtain ⟨b, off, y, rfl, hy, hb, hcell⟩ := hs.at_ hlt
      have c1 := SlI.cell hcell BW.out
      have HY1 := Lib.hid (foldl_snoc min (9 : Int) l kk y hy)
      have HY2 := Lib.hid (foldl_snoc max (1 : Int) l kk y hy)
      clear hy hcell hs
      go_wp2
      go_roundg (n - (kk + 1))
      case measure => omega
      case rel => exact ⟨kk + 1, by omega, by omega, rfl, by rw [HY1.out], by rw [HY2.out], BW.out⟩
    · have HE := Lib.hid (show kk = n by omega)
      have HT := Lib.hid (show l.take kk = l by rw [HE.out]; exact List.take_of_length_le (by have := hn.out; omega))
      rw [HT.out]
      clear hs
      go_wp2
      go_ret
      exact ⟨rfl, BW.out⟩

def cutR (l : List Int) (k : Nat) : Bool := alikeR (l.take k) && alikeR (l.drop k)
def hasCut (l : List Int) : Bool := (List.range l.length).any fun k => decide (1 ≤ k) && cutR l k
/-- The kind, by the reference. -/
def kindR (l : List Int) : Int :=
  if alikeR l then 1 else if hasCut l then 2 else if alikeR [firstL l, lastL l] then
    (if (innerL l).any (fun x => decide (x < worseL l)) then 4 else if worseL l + 2 ≤ (innerL l).foldl max 0 then 3 else 4) else 4
theorem hasCut_of {l : List Int} {k : Nat} (h1 : 1 ≤ k) (h2 : k < l.length) (h : cutR l k = true) : hasCut l = true := by
  unfold hasCut
  rw [List.any_eq_true]
  exact ⟨k, by simpa using h2, by simp [h1, h]⟩
theorem hasCut_not {l : List Int} (h : ∀ k, 1 ≤ k → k < l.length → cutR l k = false) : hasCut l = false := by
  unfold hasCut
  rw [List.any_eq_false]
  intro k hk
  simp at hk
  by_cases h1 : 1 ≤ k
  · simp [h k h1 hk]
  · simp [h1]
theorem longR_of {l : List Int} (h0 : 0 < l.length) (hb : ∀ n ∈ l, 1 ≤ n ∧ n ≤ 9) (h1 : alikeR l = false) (h2 : hasCut l = false) : 3 ≤ l.length := by
  rcases l with _ | ⟨x, _ | ⟨y, _ | ⟨z, l⟩⟩⟩
  · simp at h0
  · have := hb x (by simp)
    unfold alikeR at h1
    simp only [List.foldl_cons, List.foldl_nil] at h1
    have h1 := of_decide_eq_false h1
    omega
  · have hx := hb x (by simp)
    have hy := hb y (by simp)
    have : hasCut [x, y] = true := hasCut_of (k := 1) (by omega) (by simp) (by unfold cutR alikeR; simp only [List.take_succ_cons, List.take_zero, List.drop_succ_cons, List.drop_zero, List.foldl_cons, List.foldl_nil]; rw [Bool.and_eq_true]; exact ⟨decide_eq_true (by omega), decide_eq_true (by omega)⟩)
    rw [this] at h2; cases h2
  · simp

set_option maxHeartbeats 2000000 in
theorem kindR_any (l : List Int) (v : Value) (w : World) (hs : SlI w v l) (h0 : 0 < l.length) (hlen : l.length ≤ 1000) (hb : ∀ n ∈ l, 1 ≤ n ∧ n ≤ 9) :
    Calls Tryz.prog 163 #[v] w fun e w' => e = .returned (.int .i64 (kindR l)) ∧ Ext w w' := by
  have HS := Lib.hid hs
  have HSB := Lib.hid (show Small l from fun n hn => by have := hb n hn; omega)
  obtain ⟨A, n, c, rfl, hn, hlc, hcm⟩ := hs.form
  have hn0 : 0 < n := by have := hn.out; omega
  obtain ⟨b, off, x, rfl, hx, -, hcell⟩ := hs.at_ hn0
  obtain ⟨b', off', y, e1, hy, -, hcell'⟩ := hs.at_ (show n - 1 < n by omega)
  injection e1 with e1
  injection e1 with e1 e2
  subst e1 e2
  obtain ⟨m, rfl⟩ : ∃ m, n = m + 1 := ⟨n - 1, by omega⟩
  simp only [Nat.add_sub_cancel] at hy hcell'
  have HF := Lib.hid (show firstL l = x by unfold firstL; rw [hx]; rfl)
  have HLA := Lib.hid (show lastL l = y by unfold lastL; rw [show l.length - 1 = m by have := hn.out; omega, hy]; rfl)
  have HWO := Lib.hid (show worseL l = max x y by unfold worseL; rw [HF.out, HLA.out])
  have hm1000 : m + 1 ≤ 1000 := by have := hn.out; omega
  have hbx := hb x (List.mem_of_getElem? hx)
  have hby := hb y (List.mem_of_getElem? hy)
  have c0 := fun W (h : Ext w W) => SlI.cell hcell h
  have c1 := fun W (h : Ext w W) => SlI.cell hcell' h
  have HB := Lib.hid hb; have H0 := Lib.hid h0
  clear hs hb h0 hlen hx hy hcell hcell' hn0
  simp only [Nat.add_zero] at c0
  have hcm' : c ≤ maxLen := hcm
  go_enter Tryz.func163, Tryz.ntmps163
  go_wp2_with fail
  refine (alikeR_any l _ _ HS.out HSB.out).mono ?_
  rintro e w1 ⟨rfl, hE⟩
  have E1 := Lib.hid hE; clear hE
  cases hal : alikeR l with
  | true =>
    have HK := Lib.hid (show kindR l = 1 by unfold kindR; rw [if_pos hal])
    clear hal
    go_wp2
    go_ret
    exact ⟨by rw [HK.out]; rfl, E1.out⟩
  | false =>
    have HAL := Lib.hid hal; clear hal
    go_wp2
    go_loopg [3] (m + 1) (fun gg s3 wr => ∃ kk : Nat, 1 ≤ kk ∧ kk ≤ m + 1 ∧ m + 1 - kk ≤ gg ∧ s3 = .int .i64 kk ∧ Aside (∀ j, 1 ≤ j → j < kk → cutR l j = false) ∧ Aside (Ext w wr))
    case atStart => exact ⟨1, by omega, by omega, by omega, rfl, fun j h1 h2 => by omega, E1.out⟩
    case round =>
      obtain ⟨kk, h1, hkk, hg, rfl, NC, BW⟩ := hrel
      by_cases hlt : kk < m + 1
      · have hltz : (kk : Int) < (m : Int) + 1 := by omega
        have hkz : (0 : Int) ≤ (kk : Int) := by omega
        have hkc : (kk : Int) ≤ (c : Int) := by omega
        have hkn : (kk : Int) ≤ (m : Int) + 1 := by omega
        have hnc : ¬ (c = kk) := by omega
        have T1 := Lib.hid (HS.out.take (k := kk) (c' := c) (by omega) (by omega) hcm')
        have T2 := Lib.hid (show SlI w (.slice (some ⟨b, off + kk, none⟩) (m + 1 - kk) (c - kk)) (l.drop kk) by simpa only [Nat.mul_one] using HS.out.drop (k := kk) (c' := c - kk) (by omega) (by omega))
        go_wp2_with fail
        refine (alikeR_any (l.take kk) _ _ (T1.out.ext BW.out) (HSB.out.take kk)).mono ?_
        rintro e w2 ⟨rfl, hE⟩
        have E2 := Lib.hid (BW.out.trans hE)
        clear hE
        cases ha1 : alikeR (l.take kk) with
        | false =>
          have HC1 := Lib.hid (show cutR l kk = false by unfold cutR; rw [ha1]; rfl)
          clear ha1
          go_wp2
          go_roundg (m + 1 - (kk + 1))
          case measure => omega
          case rel => exact ⟨kk + 1, by omega, by omega, by omega, rfl, fun j h3 h4 => by
            by_cases hj : j = kk
            · rw [hj]; exact HC1.out
            · exact NC.out j h3 (by omega), E2.out⟩
        | true =>
          have HA1 := Lib.hid ha1
          clear ha1
          go_wp2_with fail
          refine (alikeR_any (l.drop kk) _ _ (T2.out.ext E2.out) (HSB.out.drop kk)).mono ?_
          rintro e w3 ⟨rfl, hE⟩
          have E3 := Lib.hid (E2.out.trans hE)
          clear hE
          cases ha2 : alikeR (l.drop kk) with
          | false =>
            have HC1 := Lib.hid (show cutR l kk = false by unfold cutR; rw [ha2, Bool.and_false])
            clear ha2
            go_wp2
            go_roundg (m + 1 - (kk + 1))
            case measure => omega
            case rel => exact ⟨kk + 1, by omega, by omega, by omega, rfl, fun j h3 h4 => by
              by_cases hj : j = kk
              · rw [hj]; exact HC1.out
              · exact NC.out j h3 (by omega), E3.out⟩
          | true =>
            have HK := Lib.hid (show kindR l = 2 by
              unfold kindR; rw [if_neg (by rw [HAL.out]; simp), if_pos (hasCut_of h1 (by have := hn.out; omega) (by unfold cutR; rw [HA1.out, ha2]; rfl))])
            clear ha2
            go_wp2
            go_ret
            exact ⟨by rw [HK.out]; rfl, E3.out⟩
      · have HNC := Lib.hid (hasCut_not (l := l) fun j h3 h4 => NC.out j h3 (by have := hn.out; omega))
        have hlong := longR_of H0.out HB.out HAL.out HNC.out
        have hm2 : 2 ≤ m := by have := hn.out; omega
        have hnlt : ¬ ((kk : Int) < (m : Int) + 1) := by omega
        have hm0 : (0 : Int) ≤ (m : Int) := by omega
        have hm1 : (m : Int) < (m : Int) + 1 := by omega
        have hmz : (0 : Int) < (m : Int) + 1 := by omega
        have hm2z : (1 : Int) ≤ (m : Int) := by omega
        have hmc : (m : Int) ≤ (c : Int) := by omega
        have hc1 : ¬ c = 1 := by omega
        have hwr : IntKind.i64.wrap (m : Int) = (m : Int) := by simp [IntKind.wrap, IntKind.signed, IntKind.bits]; omega
        have HXY := Lib.hid (show Small [x, y] from fun z hz => by simp at hz; rcases hz with rfl | rfl <;> omega)
        have TI := Lib.hid (show SlI wr (.slice (some ⟨b, off + 1, none⟩) (m - 1) (c - 1)) (innerL l) by
          unfold innerL
          rw [show l.length - 2 = m - 1 by have := hn.out; omega]
          exact ((HS.out.ext BW.out).drop (k := 1) (c' := c - 1) (by omega) (by unfold maxLen; omega)).take (by omega) (by omega) (by unfold maxLen; omega))
        have LI := Lib.hid (show (innerL l).length = m - 1 by unfold innerL; rw [List.length_take, List.length_drop]; have := hn.out; omega)
        have HIB := Lib.hid (show ∀ n ∈ innerL l, 1 ≤ n ∧ n ≤ 9 from fun n hn => HB.out n (List.mem_of_mem_drop (List.mem_of_mem_take hn)))
        have k0 := fun W (h : Ext wr W) => c0 W (BW.out.trans h)
        have k1 := fun W (h : Ext wr W) => c1 W (BW.out.trans h)
        have BE := Lib.hid BW.out
        clear c0 c1 hlong
        cases ha2 : alikeR [x, y] with
        | false =>
          have HA2 := Lib.hid ha2
          have HK := Lib.hid (show kindR l = 4 by unfold kindR; rw [if_neg (by rw [HAL.out]; simp), if_neg (by rw [HNC.out]; simp), HF.out, HLA.out, ha2]; rfl)
          clear ha2
          go_wp2
          refine wp_region_tame (fun W => Ext wr W) (fun W W' => Ext W W') (by kernel_rfl) 69 rfl (by decide +kernel) (Ext.refl _).drew ?_
          repeat (apply tame_q rfl; (intro ρ W hC hr hD; (obtain ⟨hrc, hrg, hrf, hrs⟩ := hr); (simp [go_sem] at hD); go_simp; first | exact ⟨⟨hC, Ext.refl _⟩, rfl⟩ | exact ⟨⟨hC, RS.refl _⟩, rfl⟩ | exact rfl); simp only [List.nil_append, List.cons_append])
          apply tame_v rfl (TwoAt x y) (fun v W W' _ hE h => h.ext hE)
          · intro ρ W hC hr hD
            obtain ⟨hrc, hrg, hrf, hrs⟩ := hr
            simp [go_sem] at hD
            go_simp
            exact ⟨⟨hC.alloc _, Ext.al _ _⟩, ⟨_, rfl, by simp [go_sem], by simp [go_sem], by simp⟩⟩
          simp only [List.nil_append, List.cons_append]
          apply tame_q (v0 := .bool false) rfl
          · intro ρ W hC hr hD
            obtain ⟨hrc, hrg, hrf, hrs⟩ := hr
            simp [go_sem] at hD
            go_simp
            refine (alikeR_any [x, y] _ _ hD.sl HXY.out).mono ?_
            rintro e w' ⟨rfl, hE⟩
            rw [HA2.out]
            exact ⟨_, rfl, ⟨hC.trans hE, hE⟩, rfl⟩
          simp only [List.nil_append, List.cons_append]
          repeat (apply tame_q rfl; (intro ρ W hC hr hD; (obtain ⟨hrc, hrg, hrf, hrs⟩ := hr); (simp [go_sem] at hD); go_simp; first | exact ⟨⟨hC, Ext.refl _⟩, rfl⟩ | exact ⟨⟨hC, RS.refl _⟩, rfl⟩ | exact rfl); simp only [List.nil_append, List.cons_append])
          refine tame_end 69 rfl rfl (fun ρ W hC hr hF => ?_)
          obtain ⟨hrc, hrg, hrf, hrs⟩ := hr
          simp [go_sem] at hF
          obtain ⟨f29, f30, f31, f32, f33, f34, f35, f36, ⟨b37, e37, -, -, -⟩, f38, f39⟩ := hF
          apply frame_to
          · go_simp
            exact rfl
          clear f29 f30 f31 f32 f33 f34 f35 f36 e37 f38 f39 hrs hrc hrg hrf
          go_wp2
          go_ret
          exact ⟨by rw [HK.out]; rfl, BE.out.trans hC⟩
        | true =>
          have HA2 := Lib.hid ha2
          clear ha2
          go_wp2
          refine wp_region_tame (fun W => Ext wr W) (fun W W' => Ext W W') (by kernel_rfl) 69 rfl (by decide +kernel) (Ext.refl _).drew ?_
          repeat (apply tame_q rfl; (intro ρ W hC hr hD; (obtain ⟨hrc, hrg, hrf, hrs⟩ := hr); (simp [go_sem] at hD); go_simp; first | exact ⟨⟨hC, Ext.refl _⟩, rfl⟩ | exact ⟨⟨hC, RS.refl _⟩, rfl⟩ | exact rfl); simp only [List.nil_append, List.cons_append])
          apply tame_v rfl (TwoAt x y) (fun v W W' _ hE h => h.ext hE)
          · intro ρ W hC hr hD
            obtain ⟨hrc, hrg, hrf, hrs⟩ := hr
            simp [go_sem] at hD
            go_simp
            exact ⟨⟨hC.alloc _, Ext.al _ _⟩, ⟨_, rfl, by simp [go_sem], by simp [go_sem], by simp⟩⟩
          simp only [List.nil_append, List.cons_append]
          apply tame_q (v0 := .bool true) rfl
          · intro ρ W hC hr hD
            obtain ⟨hrc, hrg, hrf, hrs⟩ := hr
            simp [go_sem] at hD
            go_simp
            refine (alikeR_any [x, y] _ _ hD.sl HXY.out).mono ?_
            rintro e w' ⟨rfl, hE⟩
            rw [HA2.out]
            exact ⟨_, rfl, ⟨hC.trans hE, hE⟩, rfl⟩
          simp only [List.nil_append, List.cons_append]
          repeat (apply tame_q rfl; (intro ρ W hC hr hD; (obtain ⟨hrc, hrg, hrf, hrs⟩ := hr); (simp [go_sem] at hD); go_simp; first | exact ⟨⟨hC, Ext.refl _⟩, rfl⟩ | exact ⟨⟨hC, RS.refl _⟩, rfl⟩ | exact rfl); simp only [List.nil_append, List.cons_append])
          refine tame_end 69 rfl rfl (fun ρ W hC hr hF => ?_)
          obtain ⟨hrc, hrg, hrf, hrs⟩ := hr
          simp [go_sem] at hF
          obtain ⟨f29, f30, f31, f32, f33, f34, f35, f36, ⟨b37, e37, -, -, -⟩, f38, f39⟩ := hF
          apply frame_to
          · go_simp
            exact rfl
          clear f29 f30 f31 f32 f33 f34 f35 f36 e37 f38 f39 hrs hrc hrg hrf
          have BF := Lib.hid (BE.out.trans hC)
          have kk0 := fun V (h : Ext W V) => k0 V (hC.trans h)
          have kk1 := fun V (h : Ext W V) => k1 V (hC.trans h)
          have TI2 := Lib.hid (TI.out.ext hC)
          clear k0 k1 hC
          go_wp2
          refine wp_region_tame (fun V => Ext W V) (fun W W' => Ext W W') (by kernel_rfl) 69 rfl (by decide +kernel) (Ext.refl _).drew ?_
          repeat (apply tame_q rfl; (intro ρ W hC hr hD; (obtain ⟨hrc, hrg, hrf, hrs⟩ := hr); (simp [go_sem] at hD); go_simp; first | exact ⟨⟨hC, Ext.refl _⟩, rfl⟩ | exact ⟨⟨hC, RS.refl _⟩, rfl⟩ | exact rfl); simp only [List.nil_append, List.cons_append])
          refine tame_end 69 rfl rfl (fun ρ V hC hr hF => ?_)
          obtain ⟨hrc, hrg, hrf, hrs⟩ := hr
          simp [go_sem] at hF
          apply frame_to
          · go_simp
            exact rfl
          clear hF hrs hrc hrg hrf kk0 kk1
          have BV := Lib.hid (BF.out.trans hC)
          have TV := Lib.hid (TI2.out.ext hC)
          clear hC
          generalize hwo : max x y = wo at HWO ⊢
          have hwb : 1 ≤ wo ∧ wo ≤ 9 := by omega
          clear hwo
          have HKE := Lib.hid (show kindR l = if (innerL l).any (fun x => decide (x < wo)) then 4 else if wo + 2 ≤ (innerL l).foldl max 0 then 3 else 4 by
            unfold kindR; rw [if_neg (by rw [HAL.out]; simp), if_neg (by rw [HNC.out]; simp), HF.out, HLA.out, HA2.out, if_pos rfl, HWO.out])
          go_wp2
          have hq1000 : m - 1 ≤ 1000 := by omega
          generalize hq : m - 1 = q at TV LI hq1000 ⊢
          clear hq
          go_loopg [6, 8, 54] q (fun gg s6 _ s54 wr => ∃ j : Nat, j ≤ q ∧ q - j ≤ gg ∧ s54 = .int .i64 j ∧ s6 = .int .i64 (((innerL l).take j).foldl max 0) ∧ Aside (∀ i z, i < j → (innerL l)[i]? = some z → decide (z < wo) = false) ∧ Aside (Ext V wr))
          case atStart => exact ⟨0, by omega, by omega, rfl, rfl, fun i z h => by omega, Ext.refl _⟩
          case round =>
            obtain ⟨j, hj, hgj, rfl, rfl, NL, BJ⟩ := hrel
            by_cases hjq : j < q
            · have hjz : (j : Int) < (q : Int) := by omega
              obtain ⟨bz, oz, z, e1, hz, -, hzc⟩ := TV.out.at_ hjq
              injection e1 with e1
              injection e1 with e1 e2
              subst e1 e2
              have cz := SlI.cell hzc BJ.out
              have hzb := HIB.out z (List.mem_of_getElem? hz)
              have HZ := Lib.hid hz
              have HFO := Lib.hid (foldl_snoc max (0 : Int) (innerL l) j z hz)
              clear hz hzc
              by_cases hzw : z < wo
              · have HK := Lib.hid (show kindR l = 4 by
                  rw [HKE.out, if_pos]
                  rw [List.any_eq_true]
                  exact ⟨z, List.mem_of_getElem? HZ.out, decide_eq_true hzw⟩)
                go_wp2
                go_ret
                exact ⟨by rw [HK.out]; rfl, BV.out.trans BJ.out⟩
              · have HZW := Lib.hid (decide_eq_false hzw)
                go_wp2
                go_roundg (q - (j + 1))
                case measure => omega
                case rel => exact ⟨j + 1, by omega, by omega, rfl, by rw [HFO.out], fun i y h1 h2 => by
                  by_cases hi : i = j
                  · subst hi; rw [HZ.out] at h2; cases h2; exact HZW.out
                  · exact NL.out i y (by omega) h2, BJ.out⟩
            · have HJQ := Lib.hid (show j = q by omega)
              have HT := Lib.hid (show (innerL l).take j = innerL l from List.take_of_length_le (by have := LI.out; omega))
              have HAN := Lib.hid (show (innerL l).any (fun x => decide (x < wo)) = false by
                rw [List.any_eq_false]
                intro z hz
                obtain ⟨i, hi⟩ := List.getElem?_of_mem hz
                have := NL.out i z (by have := (List.getElem?_eq_some_iff.1 hi).1; have := LI.out; have := HJQ.out; omega) hi
                simpa using this)
              rw [HT.out]
              by_cases hfin : wo + 2 ≤ (innerL l).foldl max 0
              · have HK := Lib.hid (show kindR l = 3 by rw [HKE.out, HAN.out, if_neg (by simp), if_pos hfin])
                go_wp2
                go_ret
                exact ⟨by rw [HK.out]; rfl, BV.out.trans BJ.out⟩
              · have HK := Lib.hid (show kindR l = 4 by rw [HKE.out, HAN.out, if_neg (by simp), if_neg hfin])
                go_wp2
                go_ret
                exact ⟨by rw [HK.out]; rfl, BV.out.trans BJ.out⟩
end Go.Proofs.YtkpengeaolcjhaaGreatDoor
/- Equality of structs, as the program tests it; that the reference's test of a bale is the program's. -/
namespace Go.Proofs.YtkpengeaolcjhaaGreatDoor
open Go.RowKit Go.Shelf
set_option maxRecDepth 100000

theorem und57 : Tryz.prog.underlying 57 = some (.struct (Tryz.prog.fieldsOf 57)) := by kernel_rfl
theorem und134 : Tryz.prog.underlying 134 = some (.struct (Tryz.prog.fieldsOf 134)) := by kernel_rfl
theorem und186 : Tryz.prog.underlying 186 = some (.struct (Tryz.prog.fieldsOf 186)) := by kernel_rfl
theorem held57 : Tryz.prog.stoodInHeld 57 = false := by kernel_rfl
theorem held134 : Tryz.prog.stoodInHeld 134 = false := by kernel_rfl
theorem held186 : Tryz.prog.stoodInHeld 186 = false := by kernel_rfl
theorem guard57 : Tryz.prog.eqGuardType Tryz.prog.depth 57 = false := by kernel_rfl
theorem guard134 : Tryz.prog.eqGuardType Tryz.prog.depth 134 = false := by kernel_rfl
theorem guard186 : Tryz.prog.eqGuardType Tryz.prog.depth 186 = false := by kernel_rfl

theorem eqin57 (d : Nat) (a b a' b' : Int) (w : World) : (Op.equalIn (d + 2) 57 (.agg #[.int .i64 a, .int .i64 b]) (.agg #[.int .i64 a', .int .i64 b'])).run Tryz.prog w = .ok (a == a' && b == b') w := by
  have u3 := Tryz.underlying3
  have a3 := Tryz.isAgg3
  have z3 := Tryz.sizeOf3
  rw [run_equalIn_agg w (d + 1) 57 _ _ und57 held57]
  simp only [Program.fieldsOf, Tryz.underlying57]
  go_simp
  by_cases h1 : a = a' <;> by_cases h2 : b = b' <;> simp [h1, h2]
theorem neq57 (a b a' b' : Int) (w : World) : (binOp .neq 57 (.agg #[.int .i64 a, .int .i64 b]) (.agg #[.int .i64 a', .int .i64 b'])).run Tryz.prog w = .ok (.bool (!(a == a' && b == b'))) w := by
  rw [run_neq_struct, show (10000 : Nat) = 9998 + 2 from rfl, eqin57]; rfl
theorem eqin134 (d : Nat) (n l a b n' l' a' b' : Int) (w : World) : (Op.equalIn (d + 3) 134 (.agg #[.int .i64 n, .int .i64 l, .int .i64 a, .int .i64 b]) (.agg #[.int .i64 n', .int .i64 l', .int .i64 a', .int .i64 b'])).run Tryz.prog w = .ok (n == n' && (l == l' && (a == a' && b == b'))) w := by
  have u3 := Tryz.underlying3
  have a3 := Tryz.isAgg3
  have z3 := Tryz.sizeOf3
  have a23 := Tryz.isAgg57
  have z23 := Tryz.sizeOf57
  have e := eqin57 d
  rw [run_equalIn_agg w (d + 2) 134 _ _ und134 held134]
  simp only [Program.fieldsOf, Tryz.underlying134]
  go_simp
  by_cases h1 : a = a' <;> by_cases h2 : b = b' <;> by_cases h3 : n = n' <;> by_cases h4 : l = l' <;> simp [h1, h2, h3, h4]
theorem eqin186 (d : Nat) (n l a b n' l' a' b' : Int) (w : World) : (Op.equalIn (d + 3) 186 (.agg #[.int .i64 n, .int .i64 l, .int .i64 a, .int .i64 b]) (.agg #[.int .i64 n', .int .i64 l', .int .i64 a', .int .i64 b'])).run Tryz.prog w = .ok (n == n' && (l == l' && (a == a' && b == b'))) w := by
  have u3 := Tryz.underlying3
  have a3 := Tryz.isAgg3
  have z3 := Tryz.sizeOf3
  have a23 := Tryz.isAgg57
  have z23 := Tryz.sizeOf57
  have e := eqin57 d
  rw [run_equalIn_agg w (d + 2) 186 _ _ und186 held186]
  simp only [Program.fieldsOf, Tryz.underlying186]
  go_simp
  by_cases h1 : a = a' <;> by_cases h2 : b = b' <;> by_cases h3 : n = n' <;> by_cases h4 : l = l' <;> simp [h1, h2, h3, h4]
theorem neq134 (n l a b n' l' a' b' : Int) (w : World) : (binOp .neq 134 (.agg #[.int .i64 n, .int .i64 l, .int .i64 a, .int .i64 b]) (.agg #[.int .i64 n', .int .i64 l', .int .i64 a', .int .i64 b'])).run Tryz.prog w = .ok (.bool (!(n == n' && (l == l' && (a == a' && b == b'))))) w := by
  rw [run_neq_struct, show (10000 : Nat) = 9997 + 3 from rfl, eqin134]; rfl
theorem neq186 (n l a b n' l' a' b' : Int) (w : World) : (binOp .neq 186 (.agg #[.int .i64 n, .int .i64 l, .int .i64 a, .int .i64 b]) (.agg #[.int .i64 n', .int .i64 l', .int .i64 a', .int .i64 b'])).run Tryz.prog w = .ok (.bool (!(n == n' && (l == l' && (a == a' && b == b'))))) w := by
  rw [run_neq_struct, show (10000 : Nat) = 9997 + 3 from rfl, eqin186]; rfl
theorem eql134l (n l a b l' : Int) (w : World) : (binOp .eql 134 (.agg #[.int .i64 n, .int .i64 l, .int .i64 a, .int .i64 b]) (.agg #[.int .i64 n, .int .i64 l', .int .i64 a, .int .i64 b])).run Tryz.prog w = .ok (.bool (l == l')) w := by
  rw [run_eql_struct, show (10000 : Nat) = 9997 + 3 from rfl, eqin134]; simp [Result.andThen]

/-! The reference's validity is the program's. -/
theorem right_eq (a b L M : Int) : (inB L b a && !decide (M < b)) = rightB a b L M := by
  unfold rightB inB
  rw [Bool.eq_iff_iff]
  simp
  omega
theorem refDs_eq (layers : Int) : ∀ (last : Int) (l : List Draw), refDs layers last l = (risingB last (l.map (·.number)) && !l.any (badD layers))
  | _, [] => rfl
  | last, x :: l => by
    rw [refDs, refDs_eq layers x.number l, List.map_cons, risingB, List.any_cons]
    unfold refD badD
    rw [show ((inB (last + 1) 9999 x.number && inB 0 (layers - 1) x.layer) && inB 1 x.grade.hi x.grade.lo && !decide (9 < x.grade.hi)) = ((inB (last + 1) 9999 x.number && inB 0 (layers - 1) x.layer) && (inB 1 x.grade.hi x.grade.lo && !decide (9 < x.grade.hi))) from by rw [Bool.and_assoc], right_eq]
    cases inB (last + 1) 9999 x.number <;> cases inB 0 (layers - 1) x.layer <;> cases rightB x.grade.lo x.grade.hi 1 9 <;> simp
theorem refWs_eq : ∀ (last : Int) (l : List Weigh), refWs last l = (risingB last (l.map (·.number)) && !l.any badW)
  | _, [] => rfl
  | last, x :: l => by
    rw [refWs, refWs_eq x.number l, List.map_cons, risingB, List.any_cons]
    unfold refW badW
    rw [show ((inB (last + 1) 9999 x.number && inB 1 1200 x.pounds) && inB 0 x.damp.hi x.damp.lo && !decide (200 < x.damp.hi)) = ((inB (last + 1) 9999 x.number && inB 1 1200 x.pounds) && (inB 0 x.damp.hi x.damp.lo && !decide (200 < x.damp.hi))) from by rw [Bool.and_assoc], right_eq]
    cases inB (last + 1) 9999 x.number <;> cases inB 1 1200 x.pounds <;> cases rightB x.damp.lo x.damp.hi 0 200 <;> simp
theorem not_lt_le (a b : Int) : (!decide (a < b)) = decide (b ≤ a) := by rw [Bool.eq_iff_iff]; simp
theorem refValid_eq (b : Bale) : refValid b = valid b := by
  unfold refValid refHead valid chk1 chk2
  rw [refDs_eq, refWs_eq, ← right_eq b.dry.lo b.dry.hi 1 600, not_lt_le, not_lt_le 10, not_lt_le 8]
  cases inB 1 9999 b.id <;> cases inB 1 5 b.layers <;> cases inB 1 b.dry.hi b.dry.lo <;> cases decide (b.dry.hi ≤ 600) <;> cases decide ((b.draws.length : Int) ≤ 10) <;> cases decide ((b.weighs.length : Int) ≤ 8) <;> cases risingB 0 (b.draws.map (·.number)) <;> cases risingB 0 (b.weighs.map (·.number)) <;> cases b.draws.any (badD b.layers) <;> cases b.weighs.any badW <;> rfl
theorem refBale_v (b : Bale) (dv wv : Value) (w : World) (hd : SlD w dv b.draws) (hw : SlW w wv b.weighs) :
    Calls Tryz.prog 93 #[valB b dv wv] w fun e w' => e = .returned (.bool (valid b)) ∧ Ext w w' := refValid_eq b ▸ refBale_any b dv wv w hd hw
end Go.Proofs.YtkpengeaolcjhaaGreatDoor
/- core.opened, core.grown: a press holds what is known of the layers and the dry weights that can be. -/
namespace Go.Proofs.YtkpengeaolcjhaaGreatDoor
open Go.RowKit Go.Shelf
set_option maxRecDepth 100000

abbrev valP (b : Bale) (dv wv sv lv : Value) : Value := .agg #[.int .i64 b.id, .int .i64 b.layers, .int .i64 b.dry.lo, .int .i64 b.dry.hi, dv, wv, sv, lv]

theorem f165_any (s : Span) (w : World) : Calls Tryz.prog 165 #[valS s] w fun e w' => e = .returned (.bool (!okS s)) ∧ Ext w w' := by
  go_enter Tryz.func165, Tryz.ntmps165
  go_wp2
  all_goals go_ret
  all_goals exact ⟨ret_bool (by unfold okS; first | (simp [*]; done) | (rw [Bool.eq_iff_iff]; simp)), Ext.al _ _⟩
theorem grown_any (b : Bale) (dv wv sv lv : Value) (l : List Span) (l2 : List Int) (w : World) (hd : SlD w dv b.draws) (hw : SlW w wv b.weighs) (hs : SlS w sv l) (hl : SlI w lv l2) :
    Calls Tryz.prog 155 #[valP b dv wv sv lv] w fun e w' => e = .returned (.bool (grown l)) ∧ Ext w w' := by
  obtain ⟨A, n, cp, rfl, hn, hlc, hcm⟩ := hd.form
  obtain ⟨A2, n2, cp2, rfl, hn2, hlc2, hcm2⟩ := hw.form
  obtain ⟨A3, n3, cp3, rfl, hn3, hlc3, hcm3⟩ := hs.form
  obtain ⟨A4, n4, cp4, rfl, hn4, hlc4, hcm4⟩ := hl.form
  have HS := Lib.hid hs; clear hd hw hs hl
  go_enter Tryz.func155, Tryz.ntmps155
  go_wp2_with fail
  refine (f164_any 165 _ (enters_of Tryz.func165 (by kernel_rfl) rfl) (fun s => !okS s) l _ _ (HS.out.ext (Ext.al _ _)) ?_).mono ?_
  · intro W x _ hW
    exact f165_any x W
  rintro e w1 ⟨rfl, hb1⟩
  generalize hr : (l.any fun s => !okS s) = r
  have HR := Lib.hid hr; clear hr
  go_wp2
  go_ret
  exact ⟨ret_bool (by rw [← HR.out]; unfold grown; rw [List.all_eq_not_any_not]), (Ext.al _ _).trans hb1⟩

def okB (b : Bale) : Bool := grown (spans b) && !(dries b).isEmpty
def OpenedPost (b : Bale) (dv wv : Value) (w : World) (e : Ending) (w' : World) : Prop :=
  ∃ sv lv, e = .returned (.tuple #[valP b dv wv sv lv, .bool (okB b)]) ∧ Own encS 57 2 w' w.heap.size sv (spans b) ∧ Own encI 3 1 w' w.heap.size lv (dries b) ∧ Ext w w'
theorem OpenedPost.of {b : Bale} {dv wv sv lv : Value} {w w' : World} {g : Bool} (hg : g = okB b) (h1 : Own encS 57 2 w' w.heap.size sv (spans b)) (h2 : Own encI 3 1 w' w.heap.size lv (dries b)) (hE : Ext w w') : OpenedPost b dv wv w (.returned (.tuple #[valP b dv wv sv lv, .bool g])) w' := by
  subst hg; exact ⟨sv, lv, rfl, h1, h2, hE⟩

set_option maxHeartbeats 2000000 in
theorem opened_any (b : Bale) (dv wv : Value) (w : World) (hd : SlD w dv b.draws) (hw : SlW w wv b.weighs) (hl1 : 1 ≤ b.layers) (hl5 : b.layers ≤ 5) (hb1 : 1 ≤ b.dry.lo) (hb2 : b.dry.lo ≤ b.dry.hi) (hb3 : b.dry.hi ≤ 600)
    (hbw : ∀ x ∈ b.weighs, 0 ≤ x.damp.lo ∧ x.damp.lo ≤ 1000000 ∧ 0 ≤ x.damp.hi ∧ x.damp.hi ≤ 1000000) :
    Calls Tryz.prog 134 #[valB b dv wv] w (OpenedPost b dv wv w) := by
  have HD := Lib.hid hd
  have HW := Lib.hid hw
  have HBW := Lib.hid hbw
  obtain ⟨A, n, cp, rfl, hn, hlc, hcm⟩ := hd.form
  obtain ⟨A2, n2, cp2, rfl, hn2, hlc2, hcm2⟩ := hw.form
  clear hd hw hbw
  go_enter Tryz.func134, Tryz.ntmps134
  go_wp2
  go_step3
  go_wp2
  go_loopg [16] 5 (fun gg s wr => ∃ (kk : Nat) (As : Option Addr) (cs : Nat), (kk : Int) ≤ b.layers ∧ (b.layers - kk).toNat ≤ gg ∧ s = .int .i64 kk ∧ Aside (Own encS 57 2 wr (w.heap.size + 3) (.slice As kk cs) (spansTo b kk)) ∧
    Aside (Blk wr (w.heap.size + 2) 166 #[.int .i64 b.id, .int .i64 b.layers, .int .i64 b.dry.lo, .int .i64 b.dry.hi, .slice A n cp, .slice A2 n2 cp2, .slice As kk cs, .slice none 0 0]) ∧
    Aside (Blk wr w.heap.size 61 #[.int .i64 b.id, .int .i64 b.layers, .int .i64 b.dry.lo, .int .i64 b.dry.hi, .slice A n cp, .slice A2 n2 cp2]) ∧
    Aside (Blk wr (w.heap.size + 1) 166 #[.int .i64 0, .int .i64 0, .int .i64 0, .int .i64 0, .slice none 0 0, .slice none 0 0, .slice none 0 0, .slice none 0 0]) ∧ Aside (Ext w wr))
  case atStart => exact ⟨0, none, 0, by omega, by omega, rfl, Own.nil _ _, Blk.at_ (by simp), ((Blk.at_ rfl).alloc _).alloc _, (Blk.at_ (by simp)).alloc _, ((Ext.al w _).alloc _).alloc _⟩
  case round =>
    obtain ⟨kk, As, cs, hkk, hg, rfl, OW, BP, BB, BR, EW⟩ := hrel
    have q1 : wr.cell? ⟨w.heap.size, 1, none⟩ = some (.int .i64 b.layers) := BB.out.cell 1
    have q2 : wr.cell? ⟨w.heap.size, 2, none⟩ = some (.int .i64 b.dry.lo) := BB.out.cell 2
    have q3 : wr.cell? ⟨w.heap.size, 3, none⟩ = some (.int .i64 b.dry.hi) := BB.out.cell 3
    have q4 : wr.cell? ⟨w.heap.size, 4, none⟩ = some (.slice A n cp) := BB.out.cell 4
    have q5 : wr.cell? ⟨w.heap.size, 5, none⟩ = some (.slice A2 n2 cp2) := BB.out.cell 5
    have p6 : wr.cell? ⟨w.heap.size + 2, 6, none⟩ = some (.slice As kk cs) := BP.out.cell 6
    have p6f : wr.frozen? ⟨w.heap.size + 2, 6, none⟩ = false := BP.out.frozen 6
    have hz2 : w.heap.size + 2 < wr.heap.size := BP.out.lt
    have hz1 : w.heap.size < wr.heap.size := by omega
    by_cases hlt : (kk : Int) < b.layers
    ·
      -- BLOCK A
      obtain ⟨wo, hwo⟩ : ∃ wo : World, wo = wr := ⟨_, rfl⟩
      subst hwo
      go_wp2
      go_loopg [23] n (fun gg s wr => ∃ (j : Nat) (lo hi : Int), j ≤ n ∧ n - j ≤ gg ∧ s = .int .i64 j ∧ Aside ((b.draws.take j).foldl (spanStep kk) ⟨1, 9⟩ = ⟨lo, hi⟩) ∧ Aside (Blk wr wo.heap.size 57 #[.int .i64 lo, .int .i64 hi]) ∧ Aside (Ext wo wr))
      case atStart => exact ⟨0, 1, 9, Nat.zero_le _, by omega, rfl, rfl, Blk.new _ _ _, Ext.al _ _⟩
      case round =>
        obtain ⟨j, lo, hi, hj, hgj, rfl, FO, BL, EX⟩ := hrel
        have s0 : wr.cell? ⟨wo.heap.size, 0, none⟩ = some (.int .i64 lo) := BL.out.cell 0
        have s1 : wr.cell? ⟨wo.heap.size, 1, none⟩ = some (.int .i64 hi) := BL.out.cell 1
        have f0 : wr.frozen? ⟨wo.heap.size, 0, none⟩ = false := BL.out.frozen 0
        have f1 : wr.frozen? ⟨wo.heap.size, 1, none⟩ = false := BL.out.frozen 1
        have hso : wo.heap.size < wr.heap.size := BL.out.lt
        by_cases hjn : j < n
        · have hjz : (j : Int) < (n : Int) := by omega
          obtain ⟨bb, off, x, rfl, hx, hb, hcell⟩ := HD.out.at_ hjn
          obtain ⟨c0, c1, c2, c3⟩ := SlD.cells hcell (EW.out.trans EX.out)
          have HX := Lib.hid hx; clear hx hcell hb
          have HFO := Lib.hid (foldl_snoc (spanStep kk) ⟨1, 9⟩ _ _ _ HX.out)
          have el := eql134l x.number x.layer x.grade.lo x.grade.hi kk
          by_cases he : x.layer = kk
          · have HE := Lib.hid he
            have he' : (x.layer == (kk : Int)) = true := by simpa using he
            clear he
            go_wp2
            go_region
            all_goals (try go_wp2)
            go_roundg (n - (j + 1))
            case measure => omega
            case rel => exact ⟨j + 1, max lo x.grade.lo, min hi x.grade.hi, by omega, by omega, rfl, by show _ = _; rw [HFO.out, FO.out, spanStep, if_pos HE.out], ((BL.out.set_ 0 _).set_ 1 _).alloc _, (((EX.out.setCell (Nat.le_refl _) _).setCell (Nat.le_refl _) _).alloc _).drew⟩
          · have HE := Lib.hid he
            have he' : (x.layer == (kk : Int)) = false := by simpa using he
            clear he
            go_wp2
            go_roundg (n - (j + 1))
            case measure => omega
            case rel => exact ⟨j + 1, lo, hi, by omega, by omega, rfl, by show _ = _; rw [HFO.out, FO.out, spanStep, if_neg HE.out], BL.out.alloc _, EX.out.alloc _⟩
        · have HSP := Lib.hid (show spanAt b.draws kk = ⟨lo, hi⟩ by unfold spanAt; rw [← FO.out, List.take_of_length_le (by have := hn.out; omega)])
          have HOL := Lib.hid (spansTo_len b kk)
          have p6' : wr.cell? ⟨w.heap.size + 2, 6, none⟩ = some (.slice As kk cs) := (EX.out.cells.1 _ _ hz2).trans p6
          have p6f' : wr.frozen? ⟨w.heap.size + 2, 6, none⟩ = false := (EX.out.cells.2 _ _ hz2).trans p6f
          have hz2' : w.heap.size + 2 < wr.heap.size := by have := EX.out.size; omega
          have OW' : Aside (Own encS 57 2 wr (w.heap.size + 3) (.slice As (spansTo b kk).length cs) (spansTo b kk)) := by rw [HOL.out]; exact OW.out.ext EX.out
          have HBP := Lib.hid (BP.out.ext EX.out)
          have HBB := Lib.hid (BB.out.ext EX.out)
          have HBR := Lib.hid (BR.out.ext EX.out)
          have HEW := Lib.hid (EW.out.trans EX.out)
          clear p6 p6f BP BB BR EW OW
          go_wp2_with (at_builtin; refine wpList_app encS 164 57 2 _ 16 Tryz.underlying164 info57x rfl (by decide) (by decide) (fun _ => rfl) encS_one rfl (.tmp 51) (.tmp 53) rfl (w.heap.size + 3) _ (spansTo b kk) (by rw [HOL.out]; rfl) (OW'.out.alloc _) wr.heap.size 1 ⟨lo, hi⟩ rfl (cells2 (by simp [go_sem]) (by simp [go_sem])) (by rw [HOL.out]; omega) (by simp; omega) ?_)
          intro g cap w' hown hg2 hbel _
          have HBP2 := Lib.hid ((HBP.out.alloc _).below hbel (by omega))
          have q6 := HBP2.out.cell 6
          have q6f := HBP2.out.frozen 6
          have HBB2 := Lib.hid ((HBB.out.alloc _).below hbel (by omega))
          have HBR2 := Lib.hid ((HBR.out.alloc _).below hbel (by omega))
          have HE2 := Lib.hid (show Ext w w' from Below.trans (HEW.out.alloc (.cells #[.int .i64 lo, .int .i64 hi] 57)) (hbel.mono (by omega)))
          have HO := Lib.hid hown; clear hown hbel p6' p6f'
          go_wp2
          go_roundg (b.layers - (kk + 1)).toNat
          case measure => omega
          case rel => exact ⟨kk + 1, some ⟨g, 0, none⟩, cap, by omega, by omega, rfl, by
              show Own _ _ _ _ _ _ _
              rw [spansTo_succ, HSP.out]; have := HO.out; rw [HOL.out] at this; exact this.far (by first | omega | (dsimp only; omega)) _, by
              show Blk _ _ _ _
              have := HBP2.out.set_ 6 (.slice (some ⟨g, 0, none⟩) ((spansTo b kk).length + 1) cap)
              rw [HOL.out] at this ⊢
              exact this, HBB2.out.far (by first | omega | (dsimp only; omega)) _, HBR2.out.far (by first | omega | (dsimp only; omega)) _, HE2.out.setCell (by first | omega | (dsimp only; omega)) _⟩
      -- END A
    · obtain ⟨w2, hw2⟩ : ∃ w2 : World, w2 = wr := ⟨_, rfl⟩
      subst hw2
      have HSP := Lib.hid (show spansTo b kk = spans b by unfold spans; rw [show b.layers.toNat = kk by omega])
      go_wp2
      go_step3
      go_wp2
      go_loopg [9] 600 (fun gg s wr => ∃ (k2 : Nat) (d : Int) (Al : Option Addr) (cl : Nat), s = .int .i64 d ∧ Aside (d = b.dry.lo + k2) ∧ b.dry.lo ≤ d ∧ d ≤ b.dry.hi + 1 ∧ (b.dry.hi + 1 - d).toNat ≤ gg ∧ Aside (Own encI 3 1 wr w2.heap.size (.slice Al (driesTo b k2).length cl) (driesTo b k2)) ∧
        Aside (Blk wr (w.heap.size + 2) 166 #[.int .i64 b.id, .int .i64 b.layers, .int .i64 b.dry.lo, .int .i64 b.dry.hi, .slice A n cp, .slice A2 n2 cp2, .slice As kk cs, .slice Al (driesTo b k2).length cl]) ∧ Aside (w2.grownBy wr (some (w.heap.size + 2))))
      case atStart => exact ⟨0, b.dry.lo, none, 0, rfl, by show _ = _; simp, by omega, by omega, by omega, Own.nil _ _, BP.out, World.grownBy.refl _ _⟩
      case round =>
        obtain ⟨k2, d, Al, cl, rfl, DK, hd1, hd2, hg, OL, BP2, GW⟩ := hrel
        have BB2 := Lib.hid (BB.out.grown GW.out (by simp))
        have BR2 := Lib.hid (BR.out.grown GW.out (by simp))
        have q3 : wr.cell? ⟨w.heap.size, 3, none⟩ = some (.int .i64 b.dry.hi) := BB2.out.cell 3
        have q5 : wr.cell? ⟨w.heap.size, 5, none⟩ = some (.slice A2 n2 cp2) := BB2.out.cell 5
        have hz2 : w.heap.size + 2 < wr.heap.size := BP2.out.lt
        have hz1 : w.heap.size < wr.heap.size := by omega
        have EW2 := Lib.hid (show Ext w wr from ⟨GW.out.os.trans EW.out.os, GW.out.tape.trans EW.out.tape, GW.out.output.trans EW.out.output, Nat.le_trans EW.out.size GW.out.size, fun k hk => (GW.out.block k (Nat.lt_of_lt_of_le hk EW.out.size) (by simp; omega)).trans (EW.out.block k hk)⟩)
        by_cases hlt : d ≤ b.dry.hi
        ·
          -- BLOCK B
          obtain ⟨w3, hw3⟩ : ∃ w3 : World, w3 = wr := ⟨_, rfl⟩
          subst hw3
          go_wp2
          go_loopg [70] n2 (fun gg s wr => ∃ (j : Nat), j ≤ n2 ∧ n2 - j ≤ gg ∧ s = .int .i64 j ∧ Aside ((b.weighs.take j).all (could d) = true) ∧ Aside (Ext w3 wr))
          case atStart => exact ⟨0, Nat.zero_le _, by omega, rfl, rfl, Ext.refl _⟩
          case round =>
            obtain ⟨j, hj, hgj, rfl, IS, EX⟩ := hrel
            by_cases hjn : j < n2
            · have hjz : (j : Int) < (n2 : Int) := by omega
              obtain ⟨bb, off, x, rfl, hx, hb, hcell⟩ := HW.out.at_ hjn
              obtain ⟨c0, c1, c2, c3⟩ := SlW.cells hcell (EW2.out.trans EX.out)
              have HX := Lib.hid hx
              have HXB := Lib.hid (HBW.out x (List.mem_of_getElem? hx)); clear hx hcell hb
              have HAS := Lib.hid (all_snoc (could d) _ _ _ HX.out)
              have m1 := fun W (h : Ext (wr.alloc (.cells #[.int .i64 x.number, .int .i64 x.pounds, .int .i64 x.damp.lo, .int .i64 x.damp.hi] 186)) W) => (h.cells.1 wr.heap.size 1 (by simp)).trans (show _ = some (.int .i64 x.pounds) by simp [go_sem])
              have m2 := fun W (h : Ext (wr.alloc (.cells #[.int .i64 x.number, .int .i64 x.pounds, .int .i64 x.damp.lo, .int .i64 x.damp.hi] 186)) W) => (h.cells.1 wr.heap.size 2 (by simp)).trans (show _ = some (.int .i64 x.damp.lo) by simp [go_sem])
              have m3 := fun W (h : Ext (wr.alloc (.cells #[.int .i64 x.number, .int .i64 x.pounds, .int .i64 x.damp.lo, .int .i64 x.damp.hi] 186)) W) => (h.cells.1 wr.heap.size 3 (by simp)).trans (show _ = some (.int .i64 x.damp.hi) by simp [go_sem])
              go_wp2
              refine wp_region_tame (fun W => Ext (wr.alloc (.cells #[.int .i64 x.number, .int .i64 x.pounds, .int .i64 x.damp.lo, .int .i64 x.damp.hi] 186)) W) (fun W W' => Ext W W') (by kernel_rfl) 105 rfl (by decide +kernel) (Ext.refl _).drew ?_
              repeat
                (apply tame_q rfl
                 (intro ρ W hC hr hD
                  obtain ⟨hrc, hrg, hrf, hrs⟩ := hr
                  simp [go_sem] at hD
                  go_simp
                  exact ⟨⟨hC, Ext.refl _⟩, rfl⟩)
                 simp only [List.nil_append, List.cons_append])
              apply tame_q rfl
              · intro ρ W hC hr hD
                obtain ⟨hrc, hrg, hrf, hrs⟩ := hr
                simp [go_sem] at hD
                go_simp
                refine (f154_any d x.damp.lo _ (by omega) (by omega) HXB.out.1 HXB.out.2.1).mono ?_
                rintro e w' ⟨rfl, rfl⟩
                exact ⟨_, rfl, ⟨hC, Ext.refl _⟩, rfl⟩
              simp only [List.nil_append, List.cons_append]
              repeat
                (apply tame_q rfl
                 (intro ρ W hC hr hD
                  obtain ⟨hrc, hrg, hrf, hrs⟩ := hr
                  simp [go_sem] at hD
                  go_simp
                  exact ⟨⟨hC, Ext.refl _⟩, rfl⟩)
                 simp only [List.nil_append, List.cons_append])
              apply tame_q rfl
              · intro ρ W hC hr hD
                obtain ⟨hrc, hrg, hrf, hrs⟩ := hr
                simp [go_sem] at hD
                go_simp
                refine (f154_any d x.damp.hi _ (by omega) (by omega) HXB.out.2.2.1 HXB.out.2.2.2).mono ?_
                rintro e w' ⟨rfl, rfl⟩
                exact ⟨_, rfl, ⟨hC, Ext.refl _⟩, rfl⟩
              simp only [List.nil_append, List.cons_append]
              repeat
                (apply tame_q rfl
                 (intro ρ W hC hr hD
                  obtain ⟨hrc, hrg, hrf, hrs⟩ := hr
                  simp [go_sem] at hD
                  go_simp
                  exact ⟨⟨hC, Ext.refl _⟩, rfl⟩)
                 simp only [List.nil_append, List.cons_append])
              apply tame_v rfl (fun v W => SlI W v [x.pounds]) (fun v W W' _ hE h => h.ext hE)
              · intro ρ W hC hr hD
                obtain ⟨hrc, hrg, hrf, hrs⟩ := hr
                simp [go_sem] at hD
                go_simp
                exact ⟨⟨hC.trans (Ext.al _ _), Ext.al _ _⟩, SlI.one1 (by simp) (by simp [go_sem])⟩
              simp only [List.nil_append, List.cons_append]
              apply tame_q rfl
              · intro ρ W hC hr hD
                obtain ⟨hrc, hrg, hrf, hrs⟩ := hr
                simp [go_sem] at hD
                obtain ⟨d1, d2, d3, d4⟩ := hD
                have D3 := Lib.hid d3; clear d3
                go_simp
                refine (in_one _ _ x.pounds _ _ D3.out).mono ?_
                rintro e w' ⟨rfl, hE⟩
                exact ⟨.bool (could d x), rfl, ⟨hC.trans hE, hE⟩, rfl⟩
              simp only [List.nil_append, List.cons_append]
              repeat
                (apply tame_q rfl
                 (intro ρ W hC hr hD
                  obtain ⟨hrc, hrg, hrf, hrs⟩ := hr
                  simp [go_sem] at hD
                  go_simp
                  exact ⟨⟨hC, Ext.refl _⟩, rfl⟩)
                 simp only [List.nil_append, List.cons_append])
              refine tame_end 105 rfl rfl (fun ρ W hC hr hF => ?_)
              obtain ⟨hrc, hrg, hrf, hrs⟩ := hr
              simp [go_sem] at hF
              apply frame_to
              · go_simp
                exact rfl
              clear hF hrs hrc hrg hrf
              generalize ρ (.tmp 86) = v86
              have EX2 := Lib.hid ((EX.out.trans (Ext.al _ _)).trans hC); clear hC
              cases hcd : could d x with
              | true =>
                have HCD := Lib.hid hcd; clear hcd
                go_wp2
                go_roundg (n2 - (j + 1))
                case measure => omega
                case rel => exact ⟨j + 1, by omega, by omega, rfl, by show _ = _; rw [HAS.out, IS.out, HCD.out]; rfl, EX2.out⟩
              | false =>
                have HCD := Lib.hid hcd; clear hcd
                have HNO := Lib.hid (show b.weighs.all (could d) = false by
                  rw [List.all_eq_false]
                  exact ⟨x, List.mem_of_getElem? HX.out, by rw [HCD.out]; simp⟩)
                go_wp2
                go_roundg (b.dry.hi + 1 - (d + 1)).toNat
                case measure => omega
                case rel => exact ⟨k2 + 1, d + 1, Al, cl, rfl, by show _ = _; have := DK.out; omega, by omega, by omega, by omega, by
                  show Own _ _ _ _ _ _ _
                  rw [driesTo_succ, ← DK.out, HNO.out]; simpa using OL.out.ext EX2.out, by
                  show Blk _ _ _ _
                  rw [driesTo_succ, ← DK.out, HNO.out]; simpa using BP2.out.ext EX2.out, grown_ext GW.out EX2.out⟩
            · have HAL := Lib.hid (show b.weighs.all (could d) = true by rw [← IS.out, List.take_of_length_le (by have := hn2.out; omega)])
              have HLN := Lib.hid (driesTo_len b k2)
              have HKK := Lib.hid (show (k2 : Int) ≤ 600 by have := DK.out; omega)
              have HSU := Lib.hid (show driesTo b (k2 + 1) = driesTo b k2 ++ [d] by rw [driesTo_succ, ← DK.out, HAL.out]; rfl)
              have HBP := Lib.hid (BP2.out.ext EX.out)
              have p7 := HBP.out.cell 7
              have p7f := HBP.out.frozen 7
              have hz3 := HBP.out.lt
              have HGW := Lib.hid (grown_ext GW.out EX.out)
              go_wp2_with (at_builtin; refine wpList_app encI 36 3 1 _ 8 Tryz.underlying36 info3x rfl (by decide) (by decide) (fun _ => rfl) encI_one rfl (.tmp 91) (.tmp 93) rfl w2.heap.size _ (driesTo b k2) rfl ((OL.out.ext EX.out).alloc _) wr.heap.size 1 d rfl (cells1 (by simp [go_sem])) (by have := HLN.out; have := HKK.out; omega) (by have := EX.out.size; have := GW.out.size; simp; omega) ?_)
              intro g cap w' hown hg2 hbel hgr
              have hlt2 : w.heap.size + 2 < w2.heap.size := BP.out.lt
              have HBP2 := Lib.hid ((HBP.out.alloc _).below hbel hlt2)
              have q7 := HBP2.out.cell 7
              have q7f := HBP2.out.frozen 7
              have HG3 := Lib.hid (show w2.grownBy w' (some (w.heap.size + 2)) from grown_below (grown_ext HGW.out (Ext.al _ _)) hbel)
              have HO := Lib.hid hown; clear hown hbel hgr p7 p7f
              go_wp2
              go_roundg (b.dry.hi + 1 - (d + 1)).toNat
              case measure => omega
              case rel => exact ⟨k2 + 1, d + 1, some ⟨g, 0, none⟩, cap, rfl, by show _ = _; have := DK.out; omega, by omega, by omega, by omega, by
                show Own _ _ _ _ _ _ _
                rw [HSU.out, List.length_append]; exact HO.out.far (by first | omega | (dsimp only; omega)) _, by
                show Blk _ _ _ _
                rw [HSU.out, List.length_append]
                exact HBP2.out.set_ 7 (.slice (some ⟨g, 0, none⟩) ((driesTo b k2).length + 1) cap), grown_set HG3.out (.inl rfl) _⟩
          -- END B
        · have HDR := Lib.hid (show driesTo b k2 = dries b by unfold dries; rw [show (b.dry.hi - b.dry.lo + 1).toNat = k2 by have := DK.out; omega])
          have HOS := Lib.hid (show wr.ownsRow (w.heap.size + 3) 57 2 (.slice As kk cs) (spans b).length ((spans b).flatMap encS) by
            have h := OW.out
            rw [HSP.out] at h
            exact own_kept h GW.out (by omega))
          have HOL := Lib.hid (show wr.ownsRow w2.heap.size 3 1 (.slice Al (driesTo b k2).length cl) (dries b).length ((dries b).flatMap encI) by rw [← HDR.out]; exact OL.out)
          have hz5 : w.heap.size + 2 < w2.heap.size := BP.out.lt
          have P0 := BP2.out.cell 0
          have P1 := BP2.out.cell 1
          have P2 := BP2.out.cell 2
          have P3 := BP2.out.cell 3
          have P4 := BP2.out.cell 4
          have P5 := BP2.out.cell 5
          have P6 := BP2.out.cell 6
          have P7 := BP2.out.cell 7
          simp at P0 P1 P2 P3 P4 P5 P6 P7
          have hz3 : w.heap.size + 1 < wr.heap.size := BR2.out.lt
          have HGC := fun W (h1 : SlD W (.slice A n cp) b.draws) (h2 : SlW W (.slice A2 n2 cp2) b.weighs) (h3 : SlS W (.slice As kk cs) (spans b)) (h4 : SlI W (.slice Al (driesTo b k2).length cl) (dries b)) => grown_any b _ _ _ _ (spans b) (dries b) W h1 h2 h3 h4
          have HLN := Lib.hid (show (driesTo b k2).length = (dries b).length by rw [HDR.out])
          have HCS := fun W (h : CS wr (w.heap.size + 1) 166 8 W) (j : Nat) => (h.cell hz2 (by omega) j)
          have c0 := fun W h => (HCS W h 0).trans P0
          have c1 := fun W h => (HCS W h 1).trans P1
          have c2 := fun W h => (HCS W h 2).trans P2
          have c3 := fun W h => (HCS W h 3).trans P3
          have c4 := fun W h => (HCS W h 4).trans P4
          have c5 := fun W h => (HCS W h 5).trans P5
          have c6 := fun W h => (HCS W h 6).trans P6
          have c7 := fun W h => (HCS W h 7).trans P7
          have HST := Lib.hid (CS.start BR2.out)
          clear HCS P0 P1 P2 P3 P4 P5 P6 P7
          have HK := Lib.hid (show ∀ W, CS wr (w.heap.size + 1) 166 8 W → SlD W (.slice A n cp) b.draws ∧ SlW W (.slice A2 n2 cp2) b.weighs ∧ Own encS 57 2 W w.heap.size (.slice As kk cs) (spans b) ∧ Own encI 3 1 W w.heap.size (.slice Al (driesTo b k2).length cl) (dries b) by
            intro W hC
            have hE : Ext w W := ⟨hC.1.os.trans EW2.out.os, hC.1.tape.trans EW2.out.tape, hC.1.output.trans EW2.out.output, Nat.le_trans EW2.out.size hC.1.size, fun k hk => (hC.1.block k (Nat.lt_of_lt_of_le hk EW2.out.size) (by intro h; injection h with h; omega)).trans (EW2.out.block k hk)⟩
            exact ⟨HD.out.ext hE, HW.out.ext hE, own_mono (own_kept HOS.out hC.1 (by omega)) (by omega), own_mono (own_kept HOL.out hC.1 (by omega)) (by omega)⟩)
          cases hgr : grown (spans b)
          all_goals
            rw [hgr] at HGC
            have HG := Lib.hid HGC; clear HGC
            have HGR := Lib.hid hgr; clear hgr
            go_wp2
            refine wp_region_tame (fun W => CS wr (w.heap.size + 1) 166 8 W) (fun W W' => RS (w.heap.size + 1) 166 #[.int .i64 b.id, .int .i64 b.layers, .int .i64 b.dry.lo, .int .i64 b.dry.hi, .slice A n cp, .slice A2 n2 cp2, .slice As kk cs, .slice Al (driesTo b k2).length cl] W W') (by kernel_rfl) 105 rfl (by decide +kernel) HST.out ?_
            repeat
              (apply tame_q rfl
               (intro ρ W hC hr hD
                obtain ⟨hrc, hrg, hrf, hrs⟩ := hr
                simp [go_sem] at hD
                go_simp
                first | exact ⟨⟨hC, RS.refl _⟩, rfl⟩ | exact rfl)
               simp only [List.nil_append, List.cons_append])
            apply tame_q rfl
            · intro ρ W hC hr hD
              obtain ⟨hrc, hrg, hrf, hrs⟩ := hr
              simp [go_sem] at hD
              go_simp
              obtain ⟨hk1, hk2, hk3, hk4⟩ := HK.out W hC
              refine (HG.out W hk1 hk2 (hk3.sl (fun _ => rfl)) (hk4.sl (fun _ => rfl))).mono ?_
              rintro e w' ⟨rfl, hE⟩
              exact ⟨_, rfl, ⟨hC.ext hE, RS.ext hE⟩, rfl⟩
            simp only [List.nil_append, List.cons_append]
            repeat
              (apply tame_q rfl
               (intro ρ W hC hr hD
                obtain ⟨hrc, hrg, hrf, hrs⟩ := hr
                simp [go_sem] at hD
                go_simp
                first | exact ⟨⟨hC, RS.refl _⟩, rfl⟩ | exact rfl)
               simp only [List.nil_append, List.cons_append])
            apply tame_n (fun _ W => Blk W (w.heap.size + 1) 166 #[.int .i64 b.id, .int .i64 b.layers, .int .i64 b.dry.lo, .int .i64 b.dry.hi, .slice A n cp, .slice A2 n2 cp2, .slice As kk cs, .slice Al (driesTo b k2).length cl]) (fun _ W W' _ hR h => hR.2 h)
            · intro ρ W hC hr hD
              obtain ⟨hrc, hrg, hrf, hrs⟩ := hr
              simp [go_sem] at hD
              obtain ⟨hg1, cs0, hB, hsz⟩ := hC
              obtain ⟨cs0⟩ := cs0
              obtain ⟨x0, x1, x2, x3, x4, x5, x6, x7, rfl⟩ : ∃ x0 x1 x2 x3 x4 x5 x6 x7, cs0 = [x0, x1, x2, x3, x4, x5, x6, x7] := by
                match cs0, hsz with
                | [x0, x1, x2, x3, x4, x5, x6, x7], _ => exact ⟨_, _, _, _, _, _, _, _, rfl⟩
              have b0 := hB.cell 0
              have b1 := hB.cell 1
              have b2 := hB.cell 2
              have b3 := hB.cell 3
              have b4 := hB.cell 4
              have b5 := hB.cell 5
              have b6 := hB.cell 6
              have b7 := hB.cell 7
              have bf := hB.frozen
              have HB := Lib.hid hB; have HG1 := Lib.hid hg1; clear hB hg1
              simp at b0 b1 b2 b3 b4 b5 b6 b7
              go_simp
              exact store8 HG1.out HB.out _ _ _ _ _ _ _ _
            simp only [List.nil_append, List.cons_append]
            repeat
              (apply tame_q rfl
               (intro ρ W hC hr hD
                obtain ⟨hrc, hrg, hrf, hrs⟩ := hr
                simp [go_sem] at hD
                go_simp
                first | exact ⟨⟨hC, RS.refl _⟩, rfl⟩ | exact rfl)
               simp only [List.nil_append, List.cons_append])
            refine tame_end 105 rfl rfl (fun ρ W hC hr hF => ?_)
            obtain ⟨hrc, hrg, hrf, hrs⟩ := hr
            have hBF : Blk W (w.heap.size + 1) 166 #[.int .i64 b.id, .int .i64 b.layers, .int .i64 b.dry.lo, .int .i64 b.dry.hi, .slice A n cp, .slice A2 n2 cp2, .slice As kk cs, .slice Al (driesTo b k2).length cl] := hF.2.2.2.2.2.2.2.2.2.1
            have HBF := Lib.hid hBF; clear hBF
            simp [go_sem] at hF
            apply frame_to
            · go_simp
              exact rfl
            clear hF hrs hrc hrg hrf
            have HC := Lib.hid hC; clear hC
            clear c0 c1 c2 c3 c4 c5 c6 c7
            go_wp2
            rw [Exit.noGoto_ret]
            have B0 := HBF.out.cell 0
            have B1 := HBF.out.cell 1
            have B2 := HBF.out.cell 2
            have B3 := HBF.out.cell 3
            have B4 := HBF.out.cell 4
            have B5 := HBF.out.cell 5
            have B6 := HBF.out.cell 6
            have B7 := HBF.out.cell 7
            simp at B0 B1 B2 B3 B4 B5 B6 B7
            refine bodyPost_ret (v := .tuple #[valP b (.slice A n cp) (.slice A2 n2 cp2) (.slice As kk cs) (.slice Al (driesTo b k2).length cl), .bool (okB b)]) (by
              have hlb : okB b = (grown (spans b) && decide (0 < (driesTo b k2).length)) := by
                unfold okB; rw [HDR.out]; cases dries b <;> simp
              rw [HGR.out] at hlb
              simp [results, Tryz.results134, go_sem, hlb, B0, B1, B2, B3, B4, B5, B6, B7]) rfl ?_
            have hkk := HK.out W HC.out
            exact OpenedPost.of rfl hkk.2.2.1 hkk.2.2.2 ⟨HC.out.1.os.trans EW2.out.os, HC.out.1.tape.trans EW2.out.tape, HC.out.1.output.trans EW2.out.output, Nat.le_trans EW2.out.size HC.out.1.size, fun k hk => (HC.out.1.block k (Nat.lt_of_lt_of_le hk EW2.out.size) (by intro h; injection h with h; omega)).trans (EW2.out.block k hk)⟩
end Go.Proofs.YtkpengeaolcjhaaGreatDoor
/- core.asked, Can, Layer, ends, Best, Worst. -/
namespace Go.Proofs.YtkpengeaolcjhaaGreatDoor
open Go.RowKit Go.Shelf
set_option maxRecDepth 100000

def askE (b : Bale) (r : Bool) (e : Int) : Int := if valid b then (if r then (if okB b then 0 else 8) else e) else 30
abbrev zP : Value := .agg #[.int .i64 0, .int .i64 0, .int .i64 0, .int .i64 0, .slice none 0 0, .slice none 0 0, .slice none 0 0, .slice none 0 0]
/-- What a press that is asked for holds. -/
def AskedPost (b : Bale) (dv wv : Value) (E : Int) (w : World) (e : Ending) (w' : World) : Prop :=
  ∃ pv, e = .returned (.tuple #[pv, .int .i64 E]) ∧ (E = 0 → ∃ sv lv, pv = valP b dv wv sv lv ∧ SlS w' sv (spans b) ∧ SlI w' lv (dries b)) ∧ (E ≠ 0 → pv = zP) ∧ Ext w w'
theorem AskedPost.bad {b : Bale} {dv wv : Value} {E E' : Int} {w w' : World} (hE : E' = E) (h0 : E ≠ 0) (h : Ext w w') : AskedPost b dv wv E w (.returned (.tuple #[zP, .int .i64 E'])) w' := by
  subst hE
  exact ⟨_, rfl, fun h => absurd h h0, fun _ => rfl, h⟩

theorem ret_set8 {P : Program} {fn : Func} {R : Ending → World → Prop} {ex : Exit} {a : Act} {w1 : World} {g : Nat} {t : TypeId} {x0 x1 x2 x3 x4 x5 x6 x7 y0 y1 y2 y3 y4 y5 y6 y7 : Value} (hB : Blk w1 g t #[x0, x1, x2, x3, x4, x5, x6, x7])
    (h : ∀ W, (W.cell? ⟨g, 0, none⟩ = some y0 ∧ W.cell? ⟨g, 1, none⟩ = some y1 ∧ W.cell? ⟨g, 2, none⟩ = some y2 ∧ W.cell? ⟨g, 3, none⟩ = some y3 ∧ W.cell? ⟨g, 4, none⟩ = some y4 ∧ W.cell? ⟨g, 5, none⟩ = some y5 ∧ W.cell? ⟨g, 6, none⟩ = some y6 ∧ W.cell? ⟨g, 7, none⟩ = some y7) → w1.grownBy W (some g) → bodyPost P fn R ex a W) :
    bodyPost P fn R ex a (set8 w1 g y0 y1 y2 y3 y4 y5 y6 y7) :=
  have H := hB.set8 y0 y1 y2 y3 y4 y5 y6 y7
  h _ ⟨H.cell 0, H.cell 1, H.cell 2, H.cell 3, H.cell 4, H.cell 5, H.cell 6, H.cell 7⟩ (grown_set8 (World.grownBy.refl _ _) ..)
theorem ret_set8a {P : Program} {fn : Func} {R : Ending → World → Prop} {ex : Exit} {a : Act} {w1 : World} {g : Nat} {t : TypeId} {x0 x1 x2 x3 x4 x5 x6 x7 y0 y1 y2 y3 y4 y5 y6 y7 : Value} {o : Obj} (hB : Blk w1 g t #[x0, x1, x2, x3, x4, x5, x6, x7])
    (h : ∀ W, (W.cell? ⟨g, 0, none⟩ = some y0 ∧ W.cell? ⟨g, 1, none⟩ = some y1 ∧ W.cell? ⟨g, 2, none⟩ = some y2 ∧ W.cell? ⟨g, 3, none⟩ = some y3 ∧ W.cell? ⟨g, 4, none⟩ = some y4 ∧ W.cell? ⟨g, 5, none⟩ = some y5 ∧ W.cell? ⟨g, 6, none⟩ = some y6 ∧ W.cell? ⟨g, 7, none⟩ = some y7) → w1.grownBy W (some g) → bodyPost P fn R ex a W) :
    bodyPost P fn R ex a ((set8 w1 g y0 y1 y2 y3 y4 y5 y6 y7).alloc o) :=
  have H := (hB.set8 y0 y1 y2 y3 y4 y5 y6 y7).alloc o
  h _ ⟨H.cell 0, H.cell 1, H.cell 2, H.cell 3, H.cell 4, H.cell 5, H.cell 6, H.cell 7⟩ (grown_ext (grown_set8 (World.grownBy.refl _ _) ..) (Ext.al _ _))
theorem ext_grown {w w1 W : World} {g : Nat} (h : Ext w w1) (k : w1.grownBy W (some g)) (hg : w.heap.size ≤ g) : Ext w W :=
  ⟨k.os.trans h.os, k.tape.trans h.tape, k.output.trans h.output, Nat.le_trans h.size k.size, fun i hi => (k.block i (Nat.lt_of_lt_of_le hi h.size) (by intro e; injection e with e; omega)).trans (h.block i hi)⟩
theorem neq45n (w : World) : (binOp .neq 45 .nilFunc .nilFunc).run Tryz.prog w = .ok (.bool false) w := by kernel_rfl
theorem neq45f (w : World) (g : FuncId) (x y : Array Value) : (binOp .neq 45 (.func (.func g) x y) .nilFunc).run Tryz.prog w = .ok (.bool true) w := by kernel_rfl

set_option maxHeartbeats 1000000 in
theorem asked_nil (b : Bale) (dv wv : Value) (w : World) (hT : Tab w) (hd : SlD w dv b.draws) (hw : SlW w wv b.weighs) :
    Calls Tryz.prog 99 #[valB b dv wv, .nilFunc, .int .i64 0] w (AskedPost b dv wv (askE b true 0) w) := by
  have HT := Lib.hid hT
  have HD := Lib.hid hd
  have HW := Lib.hid hw
  obtain ⟨A, n, cp, rfl, hn, hlc, hcm⟩ := hd.form
  obtain ⟨A2, n2, cp2, rfl, hn2, hlc2, hcm2⟩ := hw.form
  clear hd hw hT
  have nq := neq45n
  go_enter Tryz.func99, Tryz.ntmps99
  go_wp2_with fail
  refine (check_any b _ _ _ ((HT.out.ext (Ext.al _ _)).ext (Ext.al _ _)) ((HD.out.ext (Ext.al _ _)).ext (Ext.al _ _)) ((HW.out.ext (Ext.al _ _)).ext (Ext.al _ _))).mono ?_
  rintro e w1 ⟨rfl, hb⟩
  obtain ⟨hc, hf, hz, HE⟩ := hb.use
  cases hv : valid b with
  | false =>
    have HV := Lib.hid hv; clear hv
    go_wp2
    refine ret_set8 ((Blk.at_ (by simp)).ext HE.out) fun W ⟨b0, b1, b2, b3, b4, b5, b6, b7⟩ hW => ?_
    refine bodyPost_ret (v := .tuple #[zP, .int .i64 (errB false 30)]) (by simp [results, Tryz.results99, go_sem, b0, b1, b2, b3, b4, b5, b6, b7]) rfl ?_
    exact AskedPost.bad (by unfold askE errB; rw [HV.out]; rfl) (by unfold askE; rw [HV.out]; simp) (ext_grown (((Ext.al _ _).trans (Ext.al _ _)).trans HE.out) hW (by omega))
  | true =>
    have HV := Lib.hid hv; clear hv
    have HB := Lib.hid (valid_bds HV.out)
    have HDW := Lib.hid (show SlD w1 (.slice A n cp) b.draws ∧ SlW w1 (.slice A2 n2 cp2) b.weighs from ⟨((HD.out.ext (Ext.al _ _)).ext (Ext.al _ _)).ext HE.out, ((HW.out.ext (Ext.al _ _)).ext (Ext.al _ _)).ext HE.out⟩)
    go_wp2_with fail
    refine (opened_any b _ _ _ HDW.out.1 HDW.out.2 HB.out.l1 HB.out.l5 HB.out.lo HB.out.lh HB.out.hi (fun x hx => by have := HB.out.w x hx; omega)).mono ?_
    rintro e w2 ⟨sv, lv, rfl, h1, h2, hE2⟩
    obtain ⟨As, ns, cs, rfl, hns, hsc, hsm⟩ := (show SlS w2 sv (spans b) from h1.sl (fun _ => rfl)).form
    obtain ⟨Al, nl, cl, rfl, hnl, hlc', hlm⟩ := (show SlI w2 lv (dries b) from h2.sl (fun _ => rfl)).form
    dsimp only [valP]
    have H1 := Lib.hid h1; have H2 := Lib.hid h2; clear h1 h2
    have HE3 := Lib.hid ((((Ext.al w _).trans (Ext.al _ _)).trans HE.out).trans hE2)
    have HBk := Lib.hid ((Blk.at_ (t := 166) (cs := #[.int .i64 0, .int .i64 0, .int .i64 0, .int .i64 0, .slice none 0 0, .slice none 0 0, .slice none 0 0, .slice none 0 0]) (w := w.alloc (.cells #[.int .i64 b.id, .int .i64 b.layers, .int .i64 b.dry.lo, .int .i64 b.dry.hi, .slice A n cp, .slice A2 n2 cp2] 61)) (g := w.heap.size + 1) (by simp)).ext (HE.out.trans hE2))
    clear hE2 hc hf
    have hc0 := HBk.out.cell 0
    have hc1 := HBk.out.cell 1
    have hc2 := HBk.out.cell 2
    have hc3 := HBk.out.cell 3
    have hc4 := HBk.out.cell 4
    have hc5 := HBk.out.cell 5
    have hc6 := HBk.out.cell 6
    have hc7 := HBk.out.cell 7
    have hfr := HBk.out.frozen
    have hlt := HBk.out.lt
    simp at hc0 hc1 hc2 hc3 hc4 hc5 hc6 hc7
    cases ho : okB b with
    | false =>
      have HO := Lib.hid ho; clear ho
      go_wp2
      refine ret_set8a HBk.out fun W ⟨b0, b1, b2, b3, b4, b5, b6, b7⟩ hW => ?_
      refine bodyPost_ret (v := .tuple #[zP, .int .i64 8]) (by simp [results, Tryz.results99, go_sem, b0, b1, b2, b3, b4, b5, b6, b7]) rfl ?_
      exact AskedPost.bad (by unfold askE; rw [HV.out, HO.out]; rfl) (by unfold askE; rw [HV.out, HO.out]; simp) (ext_grown HE3.out hW (by omega))
    | true =>
      have HO := Lib.hid ho; clear ho
      go_wp2
      refine ret_set8a HBk.out fun W ⟨b0, b1, b2, b3, b4, b5, b6, b7⟩ hW => ?_
      refine bodyPost_ret (v := .tuple #[valP b (.slice A n cp) (.slice A2 n2 cp2) (.slice As ns cs) (.slice Al nl cl), .int .i64 0]) (by simp [results, Tryz.results99, go_sem, b0, b1, b2, b3, b4, b5, b6, b7]) rfl ?_
      refine ⟨_, by unfold askE; rw [HV.out, HO.out]; rfl, fun _ => ⟨_, _, rfl, ?_, ?_⟩, fun h => absurd (by unfold askE; rw [HV.out, HO.out]; rfl) h, ext_grown HE3.out hW (by omega)⟩
      · exact Sl.of_own (fun _ => rfl) (own_kept H1.out hW (by simp at hz; omega))
      · exact Sl.of_own (fun _ => rfl) (own_kept H2.out hW (by simp at hz; omega))
set_option maxHeartbeats 1000000 in
theorem asked_fn (b : Bale) (dv wv : Value) (w : World) (g : FuncId) (cap : Array Value) (eg : ∀ args w, (callFunc g args).run Tryz.prog w = .ok (.enter g args) w) (r : Bool) (E0 : Int) (hE0 : E0 ≠ 0) (hr : valid b = true → ∀ W, Ext w W → Calls Tryz.prog g cap W fun e W' => e = .returned (.bool r) ∧ Ext W W') (hT : Tab w) (hd : SlD w dv b.draws) (hw : SlW w wv b.weighs) :
    Calls Tryz.prog 99 #[valB b dv wv, .func (.func g) #[] cap, .int .i64 E0] w (AskedPost b dv wv (askE b r E0) w) := by
  have HT := Lib.hid hT
  have HD := Lib.hid hd
  have HW := Lib.hid hw
  obtain ⟨A, n, cp, rfl, hn, hlc, hcm⟩ := hd.form
  obtain ⟨A2, n2, cp2, rfl, hn2, hlc2, hcm2⟩ := hw.form
  have HR := Lib.hid hr
  clear hd hw hT hr
  have nq := neq45f
  go_enter Tryz.func99, Tryz.ntmps99
  go_wp2_with fail
  refine (check_any b _ _ _ ((HT.out.ext (Ext.al _ _)).ext (Ext.al _ _)) ((HD.out.ext (Ext.al _ _)).ext (Ext.al _ _)) ((HW.out.ext (Ext.al _ _)).ext (Ext.al _ _))).mono ?_
  rintro e w1 ⟨rfl, hb⟩
  obtain ⟨hc, hf, hz, HE⟩ := hb.use
  cases hv : valid b with
  | false =>
    have HV := Lib.hid hv; clear hv
    go_wp2
    refine ret_set8 ((Blk.at_ (by simp)).ext HE.out) fun W ⟨b0, b1, b2, b3, b4, b5, b6, b7⟩ hW => ?_
    refine bodyPost_ret (v := .tuple #[zP, .int .i64 (errB false 30)]) (by simp [results, Tryz.results99, go_sem, b0, b1, b2, b3, b4, b5, b6, b7]) rfl ?_
    exact AskedPost.bad (by unfold askE errB; rw [HV.out]; rfl) (by unfold askE; rw [HV.out]; simp) (ext_grown (((Ext.al _ _).trans (Ext.al _ _)).trans HE.out) hW (by omega))
  | true =>
    have HV := Lib.hid hv; clear hv
    have HB := Lib.hid (valid_bds HV.out)
    obtain ⟨w0, hw0⟩ : ∃ w0 : World, w0 = w1 := ⟨_, rfl⟩
    subst hw0
    have hza : w.heap.size + 1 < w0.heap.size := by simp at hz; omega
    have hzb : w.heap.size < w0.heap.size := by omega
    have hcall := HR.out HV.out w0 (((Ext.al _ _).trans (Ext.al _ _)).trans HE.out)
    cases hrr : r with
    | false =>
      rw [hrr] at hcall
      have HC := Lib.hid hcall; clear hcall
      have HRR := Lib.hid hrr; clear hrr
      go_wp2_with (go_at_fn g; refine HC.out.mono ?_; rintro e w1 ⟨rfl, hb2⟩; obtain ⟨hc2, hf2, hz2, HE2⟩ := hb2.use)
      refine ret_set8 ((Blk.at_ (by simp)).ext (HE.out.trans HE2.out)) fun W ⟨b0, b1, b2, b3, b4, b5, b6, b7⟩ hW => ?_
      refine bodyPost_ret (v := .tuple #[zP, .int .i64 E0]) (by simp [results, Tryz.results99, go_sem, b0, b1, b2, b3, b4, b5, b6, b7]) rfl ?_
      exact AskedPost.bad (by unfold askE; rw [HV.out, HRR.out]; rfl) (by unfold askE; rw [HV.out, HRR.out]; simpa using hE0) (ext_grown (((Ext.al _ _).trans (Ext.al _ _)).trans (HE.out.trans HE2.out)) hW (by omega))
    | true =>
    rw [hrr] at hcall
    have HC := Lib.hid hcall; clear hcall
    have HRR := Lib.hid hrr; clear hrr
    go_wp2_with (go_at_fn g; refine HC.out.mono ?_; rintro e w1 ⟨rfl, hb2⟩; obtain ⟨hc2, hf2, hz2, HE2⟩ := hb2.use)
    have HE1 := Lib.hid (HE.out.trans HE2.out)
    clear HE HE2
    have HE := HE1; clear HE1
    have HDW := Lib.hid (show SlD w1 (.slice A n cp) b.draws ∧ SlW w1 (.slice A2 n2 cp2) b.weighs from ⟨((HD.out.ext (Ext.al _ _)).ext (Ext.al _ _)).ext HE.out, ((HW.out.ext (Ext.al _ _)).ext (Ext.al _ _)).ext HE.out⟩)
    refine (opened_any b _ _ _ HDW.out.1 HDW.out.2 HB.out.l1 HB.out.l5 HB.out.lo HB.out.lh HB.out.hi (fun x hx => by have := HB.out.w x hx; omega)).mono ?_
    rintro e w2 ⟨sv, lv, rfl, h1, h2, hE2⟩
    obtain ⟨As, ns, cs, rfl, hns, hsc, hsm⟩ := (show SlS w2 sv (spans b) from h1.sl (fun _ => rfl)).form
    obtain ⟨Al, nl, cl, rfl, hnl, hlc', hlm⟩ := (show SlI w2 lv (dries b) from h2.sl (fun _ => rfl)).form
    dsimp only [valP]
    have H1 := Lib.hid h1; have H2 := Lib.hid h2; clear h1 h2
    have HE3 := Lib.hid ((((Ext.al w _).trans (Ext.al _ _)).trans HE.out).trans hE2)
    have HBk := Lib.hid ((Blk.at_ (t := 166) (cs := #[.int .i64 0, .int .i64 0, .int .i64 0, .int .i64 0, .slice none 0 0, .slice none 0 0, .slice none 0 0, .slice none 0 0]) (w := w.alloc (.cells #[.int .i64 b.id, .int .i64 b.layers, .int .i64 b.dry.lo, .int .i64 b.dry.hi, .slice A n cp, .slice A2 n2 cp2] 61)) (g := w.heap.size + 1) (by simp)).ext (HE.out.trans hE2))
    clear hE2 hc hf hc2 hf2
    have hc0 := HBk.out.cell 0
    have hc1 := HBk.out.cell 1
    have hc2 := HBk.out.cell 2
    have hc3 := HBk.out.cell 3
    have hc4 := HBk.out.cell 4
    have hc5 := HBk.out.cell 5
    have hc6 := HBk.out.cell 6
    have hc7 := HBk.out.cell 7
    have hfr := HBk.out.frozen
    have hlt := HBk.out.lt
    simp at hc0 hc1 hc2 hc3 hc4 hc5 hc6 hc7
    cases ho : okB b with
    | false =>
      have HO := Lib.hid ho; clear ho
      go_wp2
      refine ret_set8a HBk.out fun W ⟨b0, b1, b2, b3, b4, b5, b6, b7⟩ hW => ?_
      refine bodyPost_ret (v := .tuple #[zP, .int .i64 8]) (by simp [results, Tryz.results99, go_sem, b0, b1, b2, b3, b4, b5, b6, b7]) rfl ?_
      exact AskedPost.bad (by unfold askE; rw [HV.out, HRR.out, HO.out]; rfl) (by unfold askE; rw [HV.out, HRR.out, HO.out]; simp) (ext_grown HE3.out hW (by omega))
    | true =>
      have HO := Lib.hid ho; clear ho
      go_wp2
      refine ret_set8a HBk.out fun W ⟨b0, b1, b2, b3, b4, b5, b6, b7⟩ hW => ?_
      refine bodyPost_ret (v := .tuple #[valP b (.slice A n cp) (.slice A2 n2 cp2) (.slice As ns cs) (.slice Al nl cl), .int .i64 0]) (by simp [results, Tryz.results99, go_sem, b0, b1, b2, b3, b4, b5, b6, b7]) rfl ?_
      refine ⟨_, by unfold askE; rw [HV.out, HRR.out, HO.out]; rfl, fun _ => ⟨_, _, rfl, ?_, ?_⟩, fun h => absurd (by unfold askE; rw [HV.out, HRR.out, HO.out]; rfl) h, ext_grown HE3.out hW (by omega)⟩
      · exact Sl.of_own (fun _ => rfl) (own_kept H1.out hW (by omega))
      · exact Sl.of_own (fun _ => rfl) (own_kept H2.out hW (by omega))
end Go.Proofs.YtkpengeaolcjhaaGreatDoor
