/- core.kind. -/
import Derived.Test.YtcoiahjehlplfaaDoorPkChangesCardC
namespace Go.Proofs.YtcoiahjehlplfaaDoor
open Go.RowKit Go.Shelf
set_option maxRecDepth 100000
set_option linter.unusedSimpArgs false

def innerL (l : List Int) : List Int := (l.drop 1).take (l.length - 2)
def firstL (l : List Int) : Int := (l[0]?).getD 0
def lastL (l : List Int) : Int := (l[l.length - 1]?).getD 0
def worseL (l : List Int) : Int := max (firstL l) (lastL l)
/-- The kind of a bale by the grades of its layers. -/
def kindL (l : List Int) : Int :=
  if alikeL l then 1 else if 0 < (cutsL l).length then 2 else
  if (alikeL [firstL l, lastL l] && decide (worseL l ≤ mins (innerL l))) && decide (worseL l + 2 ≤ maxs l) then 3 else 4
theorem long_of {l : List Int} (h0 : 0 < l.length) (h1 : alikeL l = false) (h2 : (cutsL l).length = 0) : 3 ≤ l.length := by
  match l, h0 with
  | [x], _ => simp [alikeL, maxs, mins] at h1
  | [x, y], _ =>
    unfold cutsL at h2
    rw [h1] at h2
    simp [cutsTo, cutAt, alikeL, maxs, mins] at h2
  | x :: y :: z :: l, _ => simp
/-- A slice of two fresh numbers. -/
def TwoAt (x y : Int) (v : Value) (W : World) : Prop := ∃ b', v = .slice (some ⟨b', 0, none⟩) 2 2 ∧ W.cell? ⟨b', 0, none⟩ = some (.int .i64 x) ∧ W.cell? ⟨b', 1, none⟩ = some (.int .i64 y) ∧ b' < W.heap.size
theorem TwoAt.ext {x y : Int} {v : Value} {W W' : World} (h : TwoAt x y v W) (e : Ext W W') : TwoAt x y v W' := by
  obtain ⟨b', h1, h2, h4, h3⟩ := h
  exact ⟨b', h1, (e.cells.1 _ _ h3).trans h2, (e.cells.1 _ _ h3).trans h4, Nat.lt_of_lt_of_le h3 e.size⟩
theorem TwoAt.sl {x y : Int} {v : Value} {W : World} (h : TwoAt x y v W) : SlI W v [x, y] := by
  obtain ⟨b', h1, h2, h4, h3⟩ := h
  refine ⟨_, 2, h1, by simp, by decide, fun _ => ⟨b', 0, rfl, h3, fun i z hi j u hu => ?_⟩⟩
  match i, hi with
  | 0, hi =>
    simp at hi; subst hi
    cases j with
    | zero => simp at hu; subst hu; simpa using h2
    | succ j => simp at hu
  | 1, hi =>
    simp at hi; subst hi
    cases j with
    | zero => simp at hu; subst hu; simpa using h4
    | succ j => simp at hu

set_option maxHeartbeats 2000000 in
theorem kind_any (l : List Int) (v : Value) (w : World) (hs : SlI w v l) (h0 : 0 < l.length) (hlen : l.length ≤ 1000) (hb : Small l) :
    Calls Tryd.prog 106 #[v] w fun e w' => e = .returned (.int .i64 (kindL l)) ∧ Ext w w' := by
  have HS := Lib.hid hs
  obtain ⟨A, n, c, rfl, hn, hlc, hcm⟩ := hs.form
  obtain ⟨m, rfl⟩ : ∃ m, n = m + 1 := ⟨n - 1, by have := hn.out; omega⟩
  obtain ⟨b, off, x, rfl, hx, -, hcell⟩ := hs.at_ (show 0 < m + 1 by omega)
  obtain ⟨b', off', y, e1, hy, -, hcell'⟩ := hs.at_ (show m < m + 1 by omega)
  injection e1 with e1
  injection e1 with e1 e2
  subst e1 e2
  have HF := Lib.hid (show firstL l = x by unfold firstL; rw [hx]; rfl)
  have HLA := Lib.hid (show lastL l = y by unfold lastL; rw [show l.length - 1 = m by have := hn.out; omega, hy]; rfl)
  have HWO := Lib.hid (show worseL l = max x y by unfold worseL; rw [HF.out, HLA.out])
  have hm1000 : m + 1 ≤ 1000 := by have := hn.out; omega
  have hbx := hb x (List.mem_of_getElem? hx)
  have hby := hb y (List.mem_of_getElem? hy)
  have c0 := fun W (h : Ext w W) => SlI.cell hcell h
  have c1 := fun W (h : Ext w W) => SlI.cell hcell' h
  have HB := Lib.hid hb; have H0 := Lib.hid h0; have HLE := Lib.hid hlen
  clear hs hb h0 hlen hx hy hcell hcell'
  simp only [Nat.add_zero] at c0
  have hnz : (0 : Int) < (m : Int) + 1 := by omega
  have hm0 : (0 : Int) ≤ (m : Int) := by omega
  have hm1 : (m : Int) < (m : Int) + 1 := by omega
  have hwr : IntKind.i64.wrap (m : Int) = (m : Int) := by simp [IntKind.wrap, IntKind.signed, IntKind.bits]; omega
  go_enter Tryd.func106, Tryd.ntmps106
  go_wp2
  refine wp_region_tame (fun W => Ext w W) (fun W W' => Ext W W') (by kernel_rfl) 49 rfl (by decide +kernel) (Ext.refl _).drew ?_
  repeat (apply tame_q rfl; (intro ρ W hC hr hD; (obtain ⟨hrc, hrg, hrf, hrs⟩ := hr); (simp [go_sem] at hD); go_simp; first | exact ⟨⟨hC, Ext.refl _⟩, rfl⟩ | exact ⟨⟨hC, RS.refl _⟩, rfl⟩ | exact rfl); simp only [List.nil_append, List.cons_append])
  refine tame_end 49 rfl rfl (fun ρ W hC hr hF => ?_)
  obtain ⟨hrc, hrg, hrf, hrs⟩ := hr
  simp [go_sem] at hF
  apply frame_to
  · go_simp
    exact rfl
  clear hF hrs hrc hrg hrf
  have E1 := Lib.hid hC; clear hC
  generalize hwo : max x y = wo at HWO
  have hwb : -1000000 ≤ wo ∧ wo ≤ 1000000 := by omega
  clear hwo
  go_wp2_with fail
  refine (alike_any l _ _ (HS.out.ext E1.out) H0.out HB.out).mono ?_
  rintro e w2 ⟨rfl, hE⟩
  have E2 := Lib.hid (E1.out.trans hE); clear hE
  cases hal : alikeL l with
  | true =>
    have HK := Lib.hid (show kindL l = 1 by unfold kindL; rw [if_pos hal])
    clear hal
    go_wp2
    go_ret
    exact ⟨by rw [HK.out]; rfl, E2.out⟩
  | false =>
    have HAL := Lib.hid hal; clear hal
    go_wp2_with fail
    refine (cuts_any l _ _ (HS.out.ext E2.out) H0.out HLE.out HB.out).mono ?_
    rintro e w3 ⟨v', rfl, hv', hE⟩
    have E3 := Lib.hid (E2.out.trans hE); clear hE
    obtain ⟨A3, n3, c3, rfl, hn3, hlc3, hcm3⟩ := hv'.form
    clear hv'
    by_cases h3 : 0 < n3
    · have HK := Lib.hid (show kindL l = 2 by unfold kindL; rw [if_neg (by rw [HAL.out]; simp), if_pos (by have := hn3.out; omega)])
      have h3z : (0 : Int) < (n3 : Int) := by omega
      go_wp2
      go_ret
      exact ⟨by rw [HK.out]; rfl, E3.out⟩
    · have h3z : ¬ (0 : Int) < (n3 : Int) := by omega
      have hlong := long_of H0.out HAL.out (by have := hn3.out; omega)
      have HKE := Lib.hid (show kindL l = if (alikeL [x, y] && decide (wo ≤ mins (innerL l))) && decide (wo + 2 ≤ maxs l) then 3 else 4 by
        unfold kindL; rw [if_neg (by rw [HAL.out]; simp), if_neg (by have := hn3.out; omega), HF.out, HLA.out, HWO.out])
      have hm2 : 2 ≤ m := by have := hn.out; omega
      have hm2z : (1 : Int) ≤ (m : Int) := by omega
      have hmc : (m : Int) ≤ (c : Int) := by omega
      have hc1 : ¬ c = 1 := by omega
      have hw2 : IntKind.i64.wrap (wo + 2) = wo + 2 := by simp [IntKind.wrap, IntKind.signed, IntKind.bits]; omega
      have TL := Lib.hid (HS.out.ext E3.out)
      have TI := Lib.hid (show SlI w3 (.slice (some ⟨b, off + 1, none⟩) (m - 1) (c - 1)) (innerL l) by
        unfold innerL
        rw [show l.length - 2 = m - 1 by have := hn.out; omega]
        exact (TL.out.drop (k := 1) (c' := c - 1) (by omega) (by unfold maxLen; omega)).take (by omega) (by omega) (by unfold maxLen; omega))
      have LI := Lib.hid (show 0 < (innerL l).length by unfold innerL; rw [List.length_take, List.length_drop]; omega)
      have HXY := Lib.hid (show Small [x, y] from fun z hz => by simp at hz; rcases hz with rfl | rfl <;> assumption)
      have k0 := fun W (h : Ext w3 W) => c0 W (E3.out.trans h)
      have k1 := fun W (h : Ext w3 W) => c1 W (E3.out.trans h)
      clear c0 c1 hlong
      cases ha2 : alikeL [x, y] with
      | false =>
        have HA2 := Lib.hid ha2
        have HK := Lib.hid (show kindL l = 4 by rw [HKE.out, ha2]; rfl)
        clear ha2
        go_wp2
        refine wp_region_tame (fun W => Ext w3 W) (fun W W' => Ext W W') (by kernel_rfl) 49 rfl (by decide +kernel) (Ext.refl _).drew ?_
        repeat (apply tame_q rfl; (intro ρ W hC hr hD; (obtain ⟨hrc, hrg, hrf, hrs⟩ := hr); (simp [go_sem] at hD); go_simp; first | exact ⟨⟨hC, Ext.refl _⟩, rfl⟩ | exact ⟨⟨hC, RS.refl _⟩, rfl⟩ | exact rfl); simp only [List.nil_append, List.cons_append])
        apply tame_v rfl (TwoAt x y) (fun v W W' _ hE h => h.ext hE)
        · intro ρ W hC hr hD
          obtain ⟨hrc, hrg, hrf, hrs⟩ := hr
          simp [go_sem] at hD
          go_simp
          exact ⟨⟨hC.alloc _, Ext.al _ _⟩, ⟨_, rfl, by simp [go_sem], by simp [go_sem], by simp⟩⟩
        simp only [List.nil_append, List.cons_append]
        apply tame_q (v0 := .bool false) rfl
        · intro ρ W hC hr hD
          obtain ⟨hrc, hrg, hrf, hrs⟩ := hr
          simp [go_sem] at hD
          go_simp
          refine (alike_any [x, y] _ _ hD.sl (by simp) HXY.out).mono ?_
          rintro e w' ⟨rfl, hE⟩
          rw [HA2.out]
          exact ⟨_, rfl, ⟨hC.trans hE, hE⟩, rfl⟩
        simp only [List.nil_append, List.cons_append]
        repeat (apply tame_q rfl; (intro ρ W hC hr hD; (obtain ⟨hrc, hrg, hrf, hrs⟩ := hr); (simp [go_sem] at hD); go_simp; first | exact ⟨⟨hC, Ext.refl _⟩, rfl⟩ | exact ⟨⟨hC, RS.refl _⟩, rfl⟩ | exact rfl); simp only [List.nil_append, List.cons_append])
        refine tame_end 49 rfl rfl (fun ρ W hC hr hF => ?_)
        obtain ⟨hrc, hrg, hrf, hrs⟩ := hr
        simp [go_sem] at hF
        obtain ⟨b32, e32, -, -, -⟩ := hF.2.2.2.2.2.2.2.1
        apply frame_to
        · go_simp
          exact rfl
        clear hF hrs hrc hrg hrf
        go_wp2
        go_ret
        exact ⟨by rw [HK.out]; rfl, E3.out.trans hC⟩
      | true =>
        have HA2 := Lib.hid ha2
        clear ha2
        by_cases hmi : wo ≤ mins (innerL l)
        · by_cases hma : wo + 2 ≤ maxs l
          · have HK := Lib.hid (show kindL l = 3 by rw [HKE.out, HA2.out, decide_eq_true hmi, decide_eq_true hma]; rfl)
            go_wp2
            refine wp_region_tame (fun W => Ext w3 W) (fun W W' => Ext W W') (by kernel_rfl) 49 rfl (by decide +kernel) (Ext.refl _).drew ?_
            repeat (apply tame_q rfl; (intro ρ W hC hr hD; (obtain ⟨hrc, hrg, hrf, hrs⟩ := hr); (simp [go_sem] at hD); go_simp; first | exact ⟨⟨hC, Ext.refl _⟩, rfl⟩ | exact ⟨⟨hC, RS.refl _⟩, rfl⟩ | exact rfl); simp only [List.nil_append, List.cons_append])
            apply tame_v rfl (TwoAt x y) (fun v W W' _ hE h => h.ext hE)
            · intro ρ W hC hr hD
              obtain ⟨hrc, hrg, hrf, hrs⟩ := hr
              simp [go_sem] at hD
              go_simp
              exact ⟨⟨hC.alloc _, Ext.al _ _⟩, ⟨_, rfl, by simp [go_sem], by simp [go_sem], by simp⟩⟩
            simp only [List.nil_append, List.cons_append]
            apply tame_q (v0 := .bool true) rfl
            · intro ρ W hC hr hD
              obtain ⟨hrc, hrg, hrf, hrs⟩ := hr
              simp [go_sem] at hD
              go_simp
              refine (alike_any [x, y] _ _ hD.sl (by simp) HXY.out).mono ?_
              rintro e w' ⟨rfl, hE⟩
              rw [HA2.out]
              exact ⟨_, rfl, ⟨hC.trans hE, hE⟩, rfl⟩
            simp only [List.nil_append, List.cons_append]
            repeat (apply tame_q rfl; (intro ρ W hC hr hD; (obtain ⟨hrc, hrg, hrf, hrs⟩ := hr); (simp [go_sem] at hD); go_simp; first | exact ⟨⟨hC, Ext.refl _⟩, rfl⟩ | exact ⟨⟨hC, RS.refl _⟩, rfl⟩ | exact rfl); simp only [List.nil_append, List.cons_append])
            apply tame_q rfl
            · intro ρ W hC hr hD
              obtain ⟨hrc, hrg, hrf, hrs⟩ := hr
              simp [go_sem] at hD
              go_simp
              refine (f131_any (innerL l) _ _ (TI.out.ext hC) LI.out).mono ?_
              rintro e w' ⟨rfl, hE⟩
              exact ⟨_, rfl, ⟨hC.trans hE, hE⟩, rfl⟩
            simp only [List.nil_append, List.cons_append]
            repeat (apply tame_q rfl; (intro ρ W hC hr hD; (obtain ⟨hrc, hrg, hrf, hrs⟩ := hr); (simp [go_sem] at hD); go_simp; first | exact ⟨⟨hC, Ext.refl _⟩, rfl⟩ | exact ⟨⟨hC, RS.refl _⟩, rfl⟩ | exact rfl); simp only [List.nil_append, List.cons_append])
            apply tame_q rfl
            · intro ρ W hC hr hD
              obtain ⟨hrc, hrg, hrf, hrs⟩ := hr
              simp [go_sem] at hD
              go_simp
              refine (f132_any l _ _ (TL.out.ext hC) H0.out).mono ?_
              rintro e w' ⟨rfl, hE⟩
              exact ⟨_, rfl, ⟨hC.trans hE, hE⟩, rfl⟩
            simp only [List.nil_append, List.cons_append]
            repeat (apply tame_q rfl; (intro ρ W hC hr hD; (obtain ⟨hrc, hrg, hrf, hrs⟩ := hr); (simp [go_sem] at hD); go_simp; first | exact ⟨⟨hC, Ext.refl _⟩, rfl⟩ | exact ⟨⟨hC, RS.refl _⟩, rfl⟩ | exact rfl); simp only [List.nil_append, List.cons_append])
            refine tame_end 49 rfl rfl (fun ρ W hC hr hF => ?_)
            obtain ⟨hrc, hrg, hrf, hrs⟩ := hr
            simp [go_sem] at hF
            obtain ⟨b32, e32, -, -, -⟩ := hF.2.2.2.2.2.2.2.1
            apply frame_to
            · go_simp
              exact rfl
            clear hF hrs hrc hrg hrf
            go_wp2
            go_ret
            exact ⟨by rw [HK.out]; rfl, E3.out.trans hC⟩
          · have HK := Lib.hid (show kindL l = 4 by rw [HKE.out, decide_eq_false hma, Bool.and_false]; rfl)
            go_wp2
            refine wp_region_tame (fun W => Ext w3 W) (fun W W' => Ext W W') (by kernel_rfl) 49 rfl (by decide +kernel) (Ext.refl _).drew ?_
            repeat (apply tame_q rfl; (intro ρ W hC hr hD; (obtain ⟨hrc, hrg, hrf, hrs⟩ := hr); (simp [go_sem] at hD); go_simp; first | exact ⟨⟨hC, Ext.refl _⟩, rfl⟩ | exact ⟨⟨hC, RS.refl _⟩, rfl⟩ | exact rfl); simp only [List.nil_append, List.cons_append])
            apply tame_v rfl (TwoAt x y) (fun v W W' _ hE h => h.ext hE)
            · intro ρ W hC hr hD
              obtain ⟨hrc, hrg, hrf, hrs⟩ := hr
              simp [go_sem] at hD
              go_simp
              exact ⟨⟨hC.alloc _, Ext.al _ _⟩, ⟨_, rfl, by simp [go_sem], by simp [go_sem], by simp⟩⟩
            simp only [List.nil_append, List.cons_append]
            apply tame_q (v0 := .bool true) rfl
            · intro ρ W hC hr hD
              obtain ⟨hrc, hrg, hrf, hrs⟩ := hr
              simp [go_sem] at hD
              go_simp
              refine (alike_any [x, y] _ _ hD.sl (by simp) HXY.out).mono ?_
              rintro e w' ⟨rfl, hE⟩
              rw [HA2.out]
              exact ⟨_, rfl, ⟨hC.trans hE, hE⟩, rfl⟩
            simp only [List.nil_append, List.cons_append]
            repeat (apply tame_q rfl; (intro ρ W hC hr hD; (obtain ⟨hrc, hrg, hrf, hrs⟩ := hr); (simp [go_sem] at hD); go_simp; first | exact ⟨⟨hC, Ext.refl _⟩, rfl⟩ | exact ⟨⟨hC, RS.refl _⟩, rfl⟩ | exact rfl); simp only [List.nil_append, List.cons_append])
            apply tame_q rfl
            · intro ρ W hC hr hD
              obtain ⟨hrc, hrg, hrf, hrs⟩ := hr
              simp [go_sem] at hD
              go_simp
              refine (f131_any (innerL l) _ _ (TI.out.ext hC) LI.out).mono ?_
              rintro e w' ⟨rfl, hE⟩
              exact ⟨_, rfl, ⟨hC.trans hE, hE⟩, rfl⟩
            simp only [List.nil_append, List.cons_append]
            repeat (apply tame_q rfl; (intro ρ W hC hr hD; (obtain ⟨hrc, hrg, hrf, hrs⟩ := hr); (simp [go_sem] at hD); go_simp; first | exact ⟨⟨hC, Ext.refl _⟩, rfl⟩ | exact ⟨⟨hC, RS.refl _⟩, rfl⟩ | exact rfl); simp only [List.nil_append, List.cons_append])
            apply tame_q rfl
            · intro ρ W hC hr hD
              obtain ⟨hrc, hrg, hrf, hrs⟩ := hr
              simp [go_sem] at hD
              go_simp
              refine (f132_any l _ _ (TL.out.ext hC) H0.out).mono ?_
              rintro e w' ⟨rfl, hE⟩
              exact ⟨_, rfl, ⟨hC.trans hE, hE⟩, rfl⟩
            simp only [List.nil_append, List.cons_append]
            repeat (apply tame_q rfl; (intro ρ W hC hr hD; (obtain ⟨hrc, hrg, hrf, hrs⟩ := hr); (simp [go_sem] at hD); go_simp; first | exact ⟨⟨hC, Ext.refl _⟩, rfl⟩ | exact ⟨⟨hC, RS.refl _⟩, rfl⟩ | exact rfl); simp only [List.nil_append, List.cons_append])
            refine tame_end 49 rfl rfl (fun ρ W hC hr hF => ?_)
            obtain ⟨hrc, hrg, hrf, hrs⟩ := hr
            simp [go_sem] at hF
            obtain ⟨b32, e32, -, -, -⟩ := hF.2.2.2.2.2.2.2.1
            apply frame_to
            · go_simp
              exact rfl
            clear hF hrs hrc hrg hrf
            go_wp2
            go_ret
            exact ⟨by rw [HK.out]; rfl, E3.out.trans hC⟩
        · have HK := Lib.hid (show kindL l = 4 by rw [HKE.out, decide_eq_false hmi, Bool.and_false, Bool.false_and]; rfl)
          have hmi2 : decide (wo ≤ mins (innerL l)) = false := decide_eq_false hmi
          go_wp2
          refine wp_region_tame (fun W => Ext w3 W) (fun W W' => Ext W W') (by kernel_rfl) 49 rfl (by decide +kernel) (Ext.refl _).drew ?_
          repeat (apply tame_q rfl; (intro ρ W hC hr hD; (obtain ⟨hrc, hrg, hrf, hrs⟩ := hr); (simp [go_sem] at hD); go_simp; first | exact ⟨⟨hC, Ext.refl _⟩, rfl⟩ | exact ⟨⟨hC, RS.refl _⟩, rfl⟩ | exact rfl); simp only [List.nil_append, List.cons_append])
          apply tame_v rfl (TwoAt x y) (fun v W W' _ hE h => h.ext hE)
          · intro ρ W hC hr hD
            obtain ⟨hrc, hrg, hrf, hrs⟩ := hr
            simp [go_sem] at hD
            go_simp
            exact ⟨⟨hC.alloc _, Ext.al _ _⟩, ⟨_, rfl, by simp [go_sem], by simp [go_sem], by simp⟩⟩
          simp only [List.nil_append, List.cons_append]
          apply tame_q (v0 := .bool true) rfl
          · intro ρ W hC hr hD
            obtain ⟨hrc, hrg, hrf, hrs⟩ := hr
            simp [go_sem] at hD
            go_simp
            refine (alike_any [x, y] _ _ hD.sl (by simp) HXY.out).mono ?_
            rintro e w' ⟨rfl, hE⟩
            rw [HA2.out]
            exact ⟨_, rfl, ⟨hC.trans hE, hE⟩, rfl⟩
          simp only [List.nil_append, List.cons_append]
          repeat (apply tame_q rfl; (intro ρ W hC hr hD; (obtain ⟨hrc, hrg, hrf, hrs⟩ := hr); (simp [go_sem] at hD); go_simp; first | exact ⟨⟨hC, Ext.refl _⟩, rfl⟩ | exact ⟨⟨hC, RS.refl _⟩, rfl⟩ | exact rfl); simp only [List.nil_append, List.cons_append])
          apply tame_q rfl
          · intro ρ W hC hr hD
            obtain ⟨hrc, hrg, hrf, hrs⟩ := hr
            simp [go_sem] at hD
            go_simp
            refine (f131_any (innerL l) _ _ (TI.out.ext hC) LI.out).mono ?_
            rintro e w' ⟨rfl, hE⟩
            exact ⟨_, rfl, ⟨hC.trans hE, hE⟩, rfl⟩
          simp only [List.nil_append, List.cons_append]
          repeat (apply tame_q rfl; (intro ρ W hC hr hD; (obtain ⟨hrc, hrg, hrf, hrs⟩ := hr); (simp [go_sem] at hD); go_simp; first | exact ⟨⟨hC, Ext.refl _⟩, rfl⟩ | exact ⟨⟨hC, RS.refl _⟩, rfl⟩ | exact rfl); simp only [List.nil_append, List.cons_append])
          refine tame_end 49 rfl rfl (fun ρ W hC hr hF => ?_)
          obtain ⟨hrc, hrg, hrf, hrs⟩ := hr
          simp [go_sem] at hF
          obtain ⟨b32, e32, -, -, -⟩ := hF.2.2.2.2.2.2.2.1
          apply frame_to
          · go_simp
            exact rfl
          clear hF hrs hrc hrg hrf
          go_wp2
          go_ret
          exact ⟨by rw [HK.out]; rfl, E3.out.trans hC⟩
end Go.Proofs.YtcoiahjehlplfaaDoor
/- The reference's kind of a bale by the grades of its layers. -/
namespace Go.Proofs.YtcoiahjehlplfaaDoor
open Go.RowKit Go.Shelf
set_option maxRecDepth 100000
set_option linter.unusedSimpArgs false

def alikeR (l : List Int) : Bool := decide (l.foldl max 1 - l.foldl min 9 ≤ 1)
theorem fold_bd {l : List Int} (h : Small l) : -1000000 ≤ l.foldl max 1 ∧ l.foldl max 1 ≤ 1000000 ∧ -1000000 ≤ l.foldl min 9 ∧ l.foldl min 9 ≤ 1000000 := by
  have h1 := foldl_max_mem l 1
  have h2 := foldl_min_mem l 9
  rcases h1 with h1 | h1 <;> rcases h2 with h2 | h2
  · omega
  · have := h _ h2; omega
  · have := h _ h1; omega
  · have := h _ h1; have := h _ h2; omega

set_option maxHeartbeats 400000 in
theorem alikeR_any (l : List Int) (v : Value) (w : World) (hs : SlI w v l) (hb : Small l) :
    Calls Tryd.prog 112 #[v] w fun e w' => e = .returned (.bool (alikeR l)) ∧ Ext w w' := by
  obtain ⟨A, n, c, rfl, hn, hlc, hcm⟩ := hs.form
  have hbd := fold_bd hb
  clear hb
  go_enter Tryd.func112, Tryd.ntmps112
  go_wp2
  go_loopg [3, 4, 6, 9] n (fun gg s3 s4 _ s9 wr => ∃ kk : Nat, kk ≤ n ∧ n - kk ≤ gg ∧ s9 = .int .i64 kk ∧ s3 = .int .i64 ((l.take kk).foldl min 9) ∧ s4 = .int .i64 ((l.take kk).foldl max 1) ∧ Aside (Ext w wr))
  case atStart => exact ⟨0, by omega, by omega, rfl, rfl, rfl, Ext.refl w⟩
  case round =>
    obtain ⟨kk, hkk, hg, rfl, rfl, rfl, BW⟩ := hrel
    by_cases hlt : kk < n
    · have hltz : (kk : Int) < (n : Int) := by omega
      obtain ⟨b, off, y, rfl, hy, hb, hcell⟩ := hs.at_ hlt
      have c1 := SlI.cell hcell BW.out
      have HY1 := Lib.hid (foldl_snoc min (9 : Int) l kk y hy)
      have HY2 := Lib.hid (foldl_snoc max (1 : Int) l kk y hy)
      clear hy hcell hs
      go_wp2
      go_roundg (n - (kk + 1))
      case measure => omega
      case rel => exact ⟨kk + 1, by omega, by omega, rfl, by rw [HY1.out], by rw [HY2.out], BW.out⟩
    · have HE := Lib.hid (show kk = n by omega)
      have HT := Lib.hid (show l.take kk = l by rw [HE.out]; exact List.take_of_length_le (by have := hn.out; omega))
      rw [HT.out]
      clear hs
      go_wp2
      go_ret
      exact ⟨rfl, BW.out⟩

def cutR (l : List Int) (k : Nat) : Bool := alikeR (l.take k) && alikeR (l.drop k)
def hasCut (l : List Int) : Bool := (List.range l.length).any fun k => decide (1 ≤ k) && cutR l k
/-- The kind, by the reference. -/
def kindR (l : List Int) : Int :=
  if alikeR l then 1 else if hasCut l then 2 else if alikeR [firstL l, lastL l] then
    (if (innerL l).any (fun x => decide (x < worseL l)) then 4 else if worseL l + 2 ≤ (innerL l).foldl max 0 then 3 else 4) else 4
theorem hasCut_of {l : List Int} {k : Nat} (h1 : 1 ≤ k) (h2 : k < l.length) (h : cutR l k = true) : hasCut l = true := by
  unfold hasCut
  rw [List.any_eq_true]
  exact ⟨k, by simpa using h2, by simp [h1, h]⟩
theorem hasCut_not {l : List Int} (h : ∀ k, 1 ≤ k → k < l.length → cutR l k = false) : hasCut l = false := by
  unfold hasCut
  rw [List.any_eq_false]
  intro k hk
  simp at hk
  by_cases h1 : 1 ≤ k
  · simp [h k h1 hk]
  · simp [h1]
theorem longR_of {l : List Int} (h0 : 0 < l.length) (hb : ∀ n ∈ l, 1 ≤ n ∧ n ≤ 9) (h1 : alikeR l = false) (h2 : hasCut l = false) : 3 ≤ l.length := by
  rcases l with _ | ⟨x, _ | ⟨y, _ | ⟨z, l⟩⟩⟩
  · simp at h0
  · have := hb x (by simp)
    unfold alikeR at h1
    simp only [List.foldl_cons, List.foldl_nil] at h1
    have h1 := of_decide_eq_false h1
    omega
  · have hx := hb x (by simp)
    have hy := hb y (by simp)
    have : hasCut [x, y] = true := hasCut_of (k := 1) (by omega) (by simp) (by unfold cutR alikeR; simp only [List.take_succ_cons, List.take_zero, List.drop_succ_cons, List.drop_zero, List.foldl_cons, List.foldl_nil]; rw [Bool.and_eq_true]; exact ⟨decide_eq_true (by omega), decide_eq_true (by omega)⟩)
    rw [this] at h2; cases h2
  · simp

set_option maxHeartbeats 2000000 in
theorem kindR_any (l : List Int) (v : Value) (w : World) (hs : SlI w v l) (h0 : 0 < l.length) (hlen : l.length ≤ 1000) (hb : ∀ n ∈ l, 1 ≤ n ∧ n ≤ 9) :
    Calls Tryd.prog 111 #[v] w fun e w' => e = .returned (.int .i64 (kindR l)) ∧ Ext w w' := by
  have HS := Lib.hid hs
  have HSB := Lib.hid (show Small l from fun n hn => by have := hb n hn; omega)
  obtain ⟨A, n, c, rfl, hn, hlc, hcm⟩ := hs.form
  have hn0 : 0 < n := by have := hn.out; omega
  obtain ⟨b, off, x, rfl, hx, -, hcell⟩ := hs.at_ hn0
  obtain ⟨b', off', y, e1, hy, -, hcell'⟩ := hs.at_ (show n - 1 < n by omega)
  injection e1 with e1
  injection e1 with e1 e2
  subst e1 e2
  obtain ⟨m, rfl⟩ : ∃ m, n = m + 1 := ⟨n - 1, by omega⟩
  simp only [Nat.add_sub_cancel] at hy hcell'
  have HF := Lib.hid (show firstL l = x by unfold firstL; rw [hx]; rfl)
  have HLA := Lib.hid (show lastL l = y by unfold lastL; rw [show l.length - 1 = m by have := hn.out; omega, hy]; rfl)
  have HWO := Lib.hid (show worseL l = max x y by unfold worseL; rw [HF.out, HLA.out])
  have hm1000 : m + 1 ≤ 1000 := by have := hn.out; omega
  have hbx := hb x (List.mem_of_getElem? hx)
  have hby := hb y (List.mem_of_getElem? hy)
  have c0 := fun W (h : Ext w W) => SlI.cell hcell h
  have c1 := fun W (h : Ext w W) => SlI.cell hcell' h
  have HB := Lib.hid hb; have H0 := Lib.hid h0
  clear hs hb h0 hlen hx hy hcell hcell' hn0
  simp only [Nat.add_zero] at c0
  have hcm' : c ≤ maxLen := hcm
  go_enter Tryd.func111, Tryd.ntmps111
  go_wp2_with fail
  refine (alikeR_any l _ _ HS.out HSB.out).mono ?_
  rintro e w1 ⟨rfl, hE⟩
  have E1 := Lib.hid hE; clear hE
  cases hal : alikeR l with
  | true =>
    have HK := Lib.hid (show kindR l = 1 by unfold kindR; rw [if_pos hal])
    clear hal
    go_wp2
    go_ret
    exact ⟨by rw [HK.out]; rfl, E1.out⟩
  | false =>
    have HAL := Lib.hid hal; clear hal
    go_wp2
    go_loopg [3] (m + 1) (fun gg s3 wr => ∃ kk : Nat, 1 ≤ kk ∧ kk ≤ m + 1 ∧ m + 1 - kk ≤ gg ∧ s3 = .int .i64 kk ∧ Aside (∀ j, 1 ≤ j → j < kk → cutR l j = false) ∧ Aside (Ext w wr))
    case atStart => exact ⟨1, by omega, by omega, by omega, rfl, fun j h1 h2 => by omega, E1.out⟩
    case round =>
      obtain ⟨kk, h1, hkk, hg, rfl, NC, BW⟩ := hrel
      by_cases hlt : kk < m + 1
      · have hltz : (kk : Int) < (m : Int) + 1 := by omega
        have hkz : (0 : Int) ≤ (kk : Int) := by omega
        have hkc : (kk : Int) ≤ (c : Int) := by omega
        have hkn : (kk : Int) ≤ (m : Int) + 1 := by omega
        have hnc : ¬ (c = kk) := by omega
        have T1 := Lib.hid (HS.out.take (k := kk) (c' := c) (by omega) (by omega) hcm')
        have T2 := Lib.hid (show SlI w (.slice (some ⟨b, off + kk, none⟩) (m + 1 - kk) (c - kk)) (l.drop kk) by simpa only [Nat.mul_one] using HS.out.drop (k := kk) (c' := c - kk) (by omega) (by omega))
        go_wp2_with fail
        refine (alikeR_any (l.take kk) _ _ (T1.out.ext BW.out) (HSB.out.take kk)).mono ?_
        rintro e w2 ⟨rfl, hE⟩
        have E2 := Lib.hid (BW.out.trans hE)
        clear hE
        cases ha1 : alikeR (l.take kk) with
        | false =>
          have HC1 := Lib.hid (show cutR l kk = false by unfold cutR; rw [ha1]; rfl)
          clear ha1
          go_wp2
          go_roundg (m + 1 - (kk + 1))
          case measure => omega
          case rel => exact ⟨kk + 1, by omega, by omega, by omega, rfl, fun j h3 h4 => by
            by_cases hj : j = kk
            · rw [hj]; exact HC1.out
            · exact NC.out j h3 (by omega), E2.out⟩
        | true =>
          have HA1 := Lib.hid ha1
          clear ha1
          go_wp2_with fail
          refine (alikeR_any (l.drop kk) _ _ (T2.out.ext E2.out) (HSB.out.drop kk)).mono ?_
          rintro e w3 ⟨rfl, hE⟩
          have E3 := Lib.hid (E2.out.trans hE)
          clear hE
          cases ha2 : alikeR (l.drop kk) with
          | false =>
            have HC1 := Lib.hid (show cutR l kk = false by unfold cutR; rw [ha2, Bool.and_false])
            clear ha2
            go_wp2
            go_roundg (m + 1 - (kk + 1))
            case measure => omega
            case rel => exact ⟨kk + 1, by omega, by omega, by omega, rfl, fun j h3 h4 => by
              by_cases hj : j = kk
              · rw [hj]; exact HC1.out
              · exact NC.out j h3 (by omega), E3.out⟩
          | true =>
            have HK := Lib.hid (show kindR l = 2 by
              unfold kindR; rw [if_neg (by rw [HAL.out]; simp), if_pos (hasCut_of h1 (by have := hn.out; omega) (by unfold cutR; rw [HA1.out, ha2]; rfl))])
            clear ha2
            go_wp2
            go_ret
            exact ⟨by rw [HK.out]; rfl, E3.out⟩
      · have HNC := Lib.hid (hasCut_not (l := l) fun j h3 h4 => NC.out j h3 (by have := hn.out; omega))
        have hlong := longR_of H0.out HB.out HAL.out HNC.out
        have hm2 : 2 ≤ m := by have := hn.out; omega
        have hnlt : ¬ ((kk : Int) < (m : Int) + 1) := by omega
        have hm0 : (0 : Int) ≤ (m : Int) := by omega
        have hm1 : (m : Int) < (m : Int) + 1 := by omega
        have hmz : (0 : Int) < (m : Int) + 1 := by omega
        have hm2z : (1 : Int) ≤ (m : Int) := by omega
        have hmc : (m : Int) ≤ (c : Int) := by omega
        have hc1 : ¬ c = 1 := by omega
        have hwr : IntKind.i64.wrap (m : Int) = (m : Int) := by simp [IntKind.wrap, IntKind.signed, IntKind.bits]; omega
        have HXY := Lib.hid (show Small [x, y] from fun z hz => by simp at hz; rcases hz with rfl | rfl <;> omega)
        have TI := Lib.hid (show SlI wr (.slice (some ⟨b, off + 1, none⟩) (m - 1) (c - 1)) (innerL l) by
          unfold innerL
          rw [show l.length - 2 = m - 1 by have := hn.out; omega]
          exact ((HS.out.ext BW.out).drop (k := 1) (c' := c - 1) (by omega) (by unfold maxLen; omega)).take (by omega) (by omega) (by unfold maxLen; omega))
        have LI := Lib.hid (show (innerL l).length = m - 1 by unfold innerL; rw [List.length_take, List.length_drop]; have := hn.out; omega)
        have HIB := Lib.hid (show ∀ n ∈ innerL l, 1 ≤ n ∧ n ≤ 9 from fun n hn => HB.out n (List.mem_of_mem_drop (List.mem_of_mem_take hn)))
        have k0 := fun W (h : Ext wr W) => c0 W (BW.out.trans h)
        have k1 := fun W (h : Ext wr W) => c1 W (BW.out.trans h)
        have BE := Lib.hid BW.out
        clear c0 c1 hlong
        cases ha2 : alikeR [x, y] with
        | false =>
          have HA2 := Lib.hid ha2
          have HK := Lib.hid (show kindR l = 4 by unfold kindR; rw [if_neg (by rw [HAL.out]; simp), if_neg (by rw [HNC.out]; simp), HF.out, HLA.out, ha2]; rfl)
          clear ha2
          go_wp2
          refine wp_region_tame (fun W => Ext wr W) (fun W W' => Ext W W') (by kernel_rfl) 69 rfl (by decide +kernel) (Ext.refl _).drew ?_
          repeat (apply tame_q rfl; (intro ρ W hC hr hD; (obtain ⟨hrc, hrg, hrf, hrs⟩ := hr); (simp [go_sem] at hD); go_simp; first | exact ⟨⟨hC, Ext.refl _⟩, rfl⟩ | exact ⟨⟨hC, RS.refl _⟩, rfl⟩ | exact rfl); simp only [List.nil_append, List.cons_append])
          apply tame_v rfl (TwoAt x y) (fun v W W' _ hE h => h.ext hE)
          · intro ρ W hC hr hD
            obtain ⟨hrc, hrg, hrf, hrs⟩ := hr
            simp [go_sem] at hD
            go_simp
            exact ⟨⟨hC.alloc _, Ext.al _ _⟩, ⟨_, rfl, by simp [go_sem], by simp [go_sem], by simp⟩⟩
          simp only [List.nil_append, List.cons_append]
          apply tame_q (v0 := .bool false) rfl
          · intro ρ W hC hr hD
            obtain ⟨hrc, hrg, hrf, hrs⟩ := hr
            simp [go_sem] at hD
            go_simp
            refine (alikeR_any [x, y] _ _ hD.sl HXY.out).mono ?_
            rintro e w' ⟨rfl, hE⟩
            rw [HA2.out]
            exact ⟨_, rfl, ⟨hC.trans hE, hE⟩, rfl⟩
          simp only [List.nil_append, List.cons_append]
          repeat (apply tame_q rfl; (intro ρ W hC hr hD; (obtain ⟨hrc, hrg, hrf, hrs⟩ := hr); (simp [go_sem] at hD); go_simp; first | exact ⟨⟨hC, Ext.refl _⟩, rfl⟩ | exact ⟨⟨hC, RS.refl _⟩, rfl⟩ | exact rfl); simp only [List.nil_append, List.cons_append])
          refine tame_end 69 rfl rfl (fun ρ W hC hr hF => ?_)
          obtain ⟨hrc, hrg, hrf, hrs⟩ := hr
          simp [go_sem] at hF
          obtain ⟨f29, f30, f31, f32, f33, f34, f35, f36, ⟨b37, e37, -, -, -⟩, f38, f39⟩ := hF
          apply frame_to
          · go_simp
            exact rfl
          clear f29 f30 f31 f32 f33 f34 f35 f36 e37 f38 f39 hrs hrc hrg hrf
          go_wp2
          go_ret
          exact ⟨by rw [HK.out]; rfl, BE.out.trans hC⟩
        | true =>
          have HA2 := Lib.hid ha2
          clear ha2
          go_wp2
          refine wp_region_tame (fun W => Ext wr W) (fun W W' => Ext W W') (by kernel_rfl) 69 rfl (by decide +kernel) (Ext.refl _).drew ?_
          repeat (apply tame_q rfl; (intro ρ W hC hr hD; (obtain ⟨hrc, hrg, hrf, hrs⟩ := hr); (simp [go_sem] at hD); go_simp; first | exact ⟨⟨hC, Ext.refl _⟩, rfl⟩ | exact ⟨⟨hC, RS.refl _⟩, rfl⟩ | exact rfl); simp only [List.nil_append, List.cons_append])
          apply tame_v rfl (TwoAt x y) (fun v W W' _ hE h => h.ext hE)
          · intro ρ W hC hr hD
            obtain ⟨hrc, hrg, hrf, hrs⟩ := hr
            simp [go_sem] at hD
            go_simp
            exact ⟨⟨hC.alloc _, Ext.al _ _⟩, ⟨_, rfl, by simp [go_sem], by simp [go_sem], by simp⟩⟩
          simp only [List.nil_append, List.cons_append]
          apply tame_q (v0 := .bool true) rfl
          · intro ρ W hC hr hD
            obtain ⟨hrc, hrg, hrf, hrs⟩ := hr
            simp [go_sem] at hD
            go_simp
            refine (alikeR_any [x, y] _ _ hD.sl HXY.out).mono ?_
            rintro e w' ⟨rfl, hE⟩
            rw [HA2.out]
            exact ⟨_, rfl, ⟨hC.trans hE, hE⟩, rfl⟩
          simp only [List.nil_append, List.cons_append]
          repeat (apply tame_q rfl; (intro ρ W hC hr hD; (obtain ⟨hrc, hrg, hrf, hrs⟩ := hr); (simp [go_sem] at hD); go_simp; first | exact ⟨⟨hC, Ext.refl _⟩, rfl⟩ | exact ⟨⟨hC, RS.refl _⟩, rfl⟩ | exact rfl); simp only [List.nil_append, List.cons_append])
          refine tame_end 69 rfl rfl (fun ρ W hC hr hF => ?_)
          obtain ⟨hrc, hrg, hrf, hrs⟩ := hr
          simp [go_sem] at hF
          obtain ⟨f29, f30, f31, f32, f33, f34, f35, f36, ⟨b37, e37, -, -, -⟩, f38, f39⟩ := hF
          apply frame_to
          · go_simp
            exact rfl
          clear f29 f30 f31 f32 f33 f34 f35 f36 e37 f38 f39 hrs hrc hrg hrf
          have BF := Lib.hid (BE.out.trans hC)
          have kk0 := fun V (h : Ext W V) => k0 V (hC.trans h)
          have kk1 := fun V (h : Ext W V) => k1 V (hC.trans h)
          have TI2 := Lib.hid (TI.out.ext hC)
          clear k0 k1 hC
          go_wp2
          refine wp_region_tame (fun V => Ext W V) (fun W W' => Ext W W') (by kernel_rfl) 69 rfl (by decide +kernel) (Ext.refl _).drew ?_
          repeat (apply tame_q rfl; (intro ρ W hC hr hD; (obtain ⟨hrc, hrg, hrf, hrs⟩ := hr); (simp [go_sem] at hD); go_simp; first | exact ⟨⟨hC, Ext.refl _⟩, rfl⟩ | exact ⟨⟨hC, RS.refl _⟩, rfl⟩ | exact rfl); simp only [List.nil_append, List.cons_append])
          refine tame_end 69 rfl rfl (fun ρ V hC hr hF => ?_)
          obtain ⟨hrc, hrg, hrf, hrs⟩ := hr
          simp [go_sem] at hF
          apply frame_to
          · go_simp
            exact rfl
          clear hF hrs hrc hrg hrf kk0 kk1
          have BV := Lib.hid (BF.out.trans hC)
          have TV := Lib.hid (TI2.out.ext hC)
          clear hC
          generalize hwo : max x y = wo at HWO ⊢
          have hwb : 1 ≤ wo ∧ wo ≤ 9 := by omega
          clear hwo
          have HKE := Lib.hid (show kindR l = if (innerL l).any (fun x => decide (x < wo)) then 4 else if wo + 2 ≤ (innerL l).foldl max 0 then 3 else 4 by
            unfold kindR; rw [if_neg (by rw [HAL.out]; simp), if_neg (by rw [HNC.out]; simp), HF.out, HLA.out, HA2.out, if_pos rfl, HWO.out])
          go_wp2
          have hq1000 : m - 1 ≤ 1000 := by omega
          generalize hq : m - 1 = q at TV LI hq1000 ⊢
          clear hq
          go_loopg [6, 8, 54] q (fun gg s6 _ s54 wr => ∃ j : Nat, j ≤ q ∧ q - j ≤ gg ∧ s54 = .int .i64 j ∧ s6 = .int .i64 (((innerL l).take j).foldl max 0) ∧ Aside (∀ i z, i < j → (innerL l)[i]? = some z → decide (z < wo) = false) ∧ Aside (Ext V wr))
          case atStart => exact ⟨0, by omega, by omega, rfl, rfl, fun i z h => by omega, Ext.refl _⟩
          case round =>
            obtain ⟨j, hj, hgj, rfl, rfl, NL, BJ⟩ := hrel
            by_cases hjq : j < q
            · have hjz : (j : Int) < (q : Int) := by omega
              obtain ⟨bz, oz, z, e1, hz, -, hzc⟩ := TV.out.at_ hjq
              injection e1 with e1
              injection e1 with e1 e2
              subst e1 e2
              have cz := SlI.cell hzc BJ.out
              have hzb := HIB.out z (List.mem_of_getElem? hz)
              have HZ := Lib.hid hz
              have HFO := Lib.hid (foldl_snoc max (0 : Int) (innerL l) j z hz)
              clear hz hzc
              by_cases hzw : z < wo
              · have HK := Lib.hid (show kindR l = 4 by
                  rw [HKE.out, if_pos]
                  rw [List.any_eq_true]
                  exact ⟨z, List.mem_of_getElem? HZ.out, decide_eq_true hzw⟩)
                go_wp2
                go_ret
                exact ⟨by rw [HK.out]; rfl, BV.out.trans BJ.out⟩
              · have HZW := Lib.hid (decide_eq_false hzw)
                go_wp2
                go_roundg (q - (j + 1))
                case measure => omega
                case rel => exact ⟨j + 1, by omega, by omega, rfl, by rw [HFO.out], fun i y h1 h2 => by
                  by_cases hi : i = j
                  · subst hi; rw [HZ.out] at h2; cases h2; exact HZW.out
                  · exact NL.out i y (by omega) h2, BJ.out⟩
            · have HJQ := Lib.hid (show j = q by omega)
              have HT := Lib.hid (show (innerL l).take j = innerL l from List.take_of_length_le (by have := LI.out; omega))
              have HAN := Lib.hid (show (innerL l).any (fun x => decide (x < wo)) = false by
                rw [List.any_eq_false]
                intro z hz
                obtain ⟨i, hi⟩ := List.getElem?_of_mem hz
                have := NL.out i z (by have := (List.getElem?_eq_some_iff.1 hi).1; have := LI.out; have := HJQ.out; omega) hi
                simpa using this)
              rw [HT.out]
              by_cases hfin : wo + 2 ≤ (innerL l).foldl max 0
              · have HK := Lib.hid (show kindR l = 3 by rw [HKE.out, HAN.out, if_neg (by simp), if_pos hfin])
                go_wp2
                go_ret
                exact ⟨by rw [HK.out]; rfl, BV.out.trans BJ.out⟩
              · have HK := Lib.hid (show kindR l = 4 by rw [HKE.out, HAN.out, if_neg (by simp), if_neg hfin])
                go_wp2
                go_ret
                exact ⟨by rw [HK.out]; rfl, BV.out.trans BJ.out⟩
end Go.Proofs.YtcoiahjehlplfaaDoor
