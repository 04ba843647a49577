/- core.kind. -/
import Derived.Test.YtcoiahjehlplfaaDoorKind
import Derived.Test.YtcoiahjehlplfaaDoorTameM
namespace Go.Proofs.YtcoiahjehlplfaaDoor
open Go.RowKit Go.Shelf
set_option maxRecDepth 100000
set_option linter.unusedSimpArgs false

def innerL (l : List Int) : List Int := (l.drop 1).take (l.length - 2)
def firstL (l : List Int) : Int := (l[0]?).getD 0
def lastL (l : List Int) : Int := (l[l.length - 1]?).getD 0
def worseL (l : List Int) : Int := max (firstL l) (lastL l)
/-- The kind of a bale by the grades of its layers. -/
def kindL (l : List Int) : Int :=
  if alikeL l then 1 else if 0 < (cutsL l).length then 2 else
  if (alikeL [firstL l, lastL l] && decide (worseL l ≤ mins (innerL l))) && decide (worseL l + 2 ≤ maxs l) then 3 else 4
theorem long_of {l : List Int} (h0 : 0 < l.length) (h1 : alikeL l = false) (h2 : (cutsL l).length = 0) : 3 ≤ l.length := by
  match l, h0 with
  | [x], _ => simp [alikeL, maxs, mins] at h1
  | [x, y], _ =>
    unfold cutsL at h2
    rw [h1] at h2
    simp [cutsTo, cutAt, alikeL, maxs, mins] at h2
  | x :: y :: z :: l, _ => simp
/-- A slice of two fresh numbers. -/
def TwoAt (x y : Int) (v : Value) (W : World) : Prop := ∃ b', v = .slice (some ⟨b', 0, none⟩) 2 2 ∧ W.cell? ⟨b', 0, none⟩ = some (.int .i64 x) ∧ W.cell? ⟨b', 1, none⟩ = some (.int .i64 y) ∧ b' < W.heap.size
theorem TwoAt.ext {x y : Int} {v : Value} {W W' : World} (h : TwoAt x y v W) (e : Ext W W') : TwoAt x y v W' := by
  obtain ⟨b', h1, h2, h4, h3⟩ := h
  exact ⟨b', h1, (e.cells.1 _ _ h3).trans h2, (e.cells.1 _ _ h3).trans h4, Nat.lt_of_lt_of_le h3 e.size⟩
theorem TwoAt.sl {x y : Int} {v : Value} {W : World} (h : TwoAt x y v W) : SlI W v [x, y] := by
  obtain ⟨b', h1, h2, h4, h3⟩ := h
  refine ⟨_, 2, h1, by simp, by decide, fun _ => ⟨b', 0, rfl, h3, fun i z hi j u hu => ?_⟩⟩
  match i, hi with
  | 0, hi =>
    simp at hi; subst hi
    cases j with
    | zero => simp at hu; subst hu; simpa using h2
    | succ j => simp at hu
  | 1, hi =>
    simp at hi; subst hi
    cases j with
    | zero => simp at hu; subst hu; simpa using h4
    | succ j => simp at hu

set_option maxHeartbeats 2000000 in
theorem kind_any (l : List Int) (v : Value) (w : World) (hs : SlI w v l) (h0 : 0 < l.length) (hlen : l.length ≤ 1000) (hb : Small l) :
    Calls Tryd.prog 106 #[v] w fun e w' => e = .returned (.int .i64 (kindL l)) ∧ Ext w w' := by
  have HS := Lib.hid hs
  obtain ⟨A, n, c, rfl, hn, hlc, hcm⟩ := hs.form
  obtain ⟨m, rfl⟩ : ∃ m, n = m + 1 := ⟨n - 1, by have := hn.out; omega⟩
  obtain ⟨b, off, x, rfl, hx, -, hcell⟩ := hs.at_ (show 0 < m + 1 by omega)
  obtain ⟨b', off', y, e1, hy, -, hcell'⟩ := hs.at_ (show m < m + 1 by omega)
  injection e1 with e1
  injection e1 with e1 e2
  subst e1 e2
  have HF := Lib.hid (show firstL l = x by unfold firstL; rw [hx]; rfl)
  have HLA := Lib.hid (show lastL l = y by unfold lastL; rw [show l.length - 1 = m by have := hn.out; omega, hy]; rfl)
  have HWO := Lib.hid (show worseL l = max x y by unfold worseL; rw [HF.out, HLA.out])
  have hm1000 : m + 1 ≤ 1000 := by have := hn.out; omega
  have hbx := hb x (List.mem_of_getElem? hx)
  have hby := hb y (List.mem_of_getElem? hy)
  have c0 := fun W (h : Ext w W) => SlI.cell hcell h
  have c1 := fun W (h : Ext w W) => SlI.cell hcell' h
  have HB := Lib.hid hb; have H0 := Lib.hid h0; have HLE := Lib.hid hlen
  clear hs hb h0 hlen hx hy hcell hcell'
  simp only [Nat.add_zero] at c0
  have hnz : (0 : Int) < (m : Int) + 1 := by omega
  have hm0 : (0 : Int) ≤ (m : Int) := by omega
  have hm1 : (m : Int) < (m : Int) + 1 := by omega
  have hwr : IntKind.i64.wrap (m : Int) = (m : Int) := by simp [IntKind.wrap, IntKind.signed, IntKind.bits]; omega
  go_enter Tryd.func106, Tryd.ntmps106
  go_wp2
  refine wp_region_tame (fun W => Ext w W) (fun W W' => Ext W W') (by kernel_rfl) 49 rfl (by decide +kernel) (Ext.refl _).drew ?_
  repeat (apply tame_q rfl; (intro ρ W hC hr hD; (obtain ⟨hrc, hrg, hrf, hrs⟩ := hr); (simp [go_sem] at hD); go_simp; first | exact ⟨⟨hC, Ext.refl _⟩, rfl⟩ | exact ⟨⟨hC, RS.refl _⟩, rfl⟩ | exact rfl); simp only [List.nil_append, List.cons_append])
  refine tame_end 49 rfl rfl (fun ρ W hC hr hF => ?_)
  obtain ⟨hrc, hrg, hrf, hrs⟩ := hr
  simp [go_sem] at hF
  apply frame_to
  · go_simp
    exact rfl
  clear hF hrs hrc hrg hrf
  have E1 := Lib.hid hC; clear hC
  generalize hwo : max x y = wo at HWO
  have hwb : -1000000 ≤ wo ∧ wo ≤ 1000000 := by omega
  clear hwo
  go_wp2_with fail
  refine (alike_any l _ _ (HS.out.ext E1.out) H0.out HB.out).mono ?_
  rintro e w2 ⟨rfl, hE⟩
  have E2 := Lib.hid (E1.out.trans hE); clear hE
  cases hal : alikeL l with
  | true =>
    have HK := Lib.hid (show kindL l = 1 by unfold kindL; rw [if_pos hal])
    clear hal
    go_wp2
    go_ret
    exact ⟨by rw [HK.out]; rfl, E2.out⟩
  | false =>
    have HAL := Lib.hid hal; clear hal
    go_wp2_with fail
    refine (cuts_any l _ _ (HS.out.ext E2.out) H0.out HLE.out HB.out).mono ?_
    rintro e w3 ⟨v', rfl, hv', hE⟩
    have E3 := Lib.hid (E2.out.trans hE); clear hE
    obtain ⟨A3, n3, c3, rfl, hn3, hlc3, hcm3⟩ := hv'.form
    clear hv'
    by_cases h3 : 0 < n3
    · have HK := Lib.hid (show kindL l = 2 by unfold kindL; rw [if_neg (by rw [HAL.out]; simp), if_pos (by have := hn3.out; omega)])
      have h3z : (0 : Int) < (n3 : Int) := by omega
      go_wp2
      go_ret
      exact ⟨by rw [HK.out]; rfl, E3.out⟩
    · have h3z : ¬ (0 : Int) < (n3 : Int) := by omega
      have hlong := long_of H0.out HAL.out (by have := hn3.out; omega)
      have HKE := Lib.hid (show kindL l = if (alikeL [x, y] && decide (wo ≤ mins (innerL l))) && decide (wo + 2 ≤ maxs l) then 3 else 4 by
        unfold kindL; rw [if_neg (by rw [HAL.out]; simp), if_neg (by have := hn3.out; omega), HF.out, HLA.out, HWO.out])
      have hm2 : 2 ≤ m := by have := hn.out; omega
      have hm2z : (1 : Int) ≤ (m : Int) := by omega
      have hmc : (m : Int) ≤ (c : Int) := by omega
      have hc1 : ¬ c = 1 := by omega
      have hw2 : IntKind.i64.wrap (wo + 2) = wo + 2 := by simp [IntKind.wrap, IntKind.signed, IntKind.bits]; omega
      have TL := Lib.hid (HS.out.ext E3.out)
      have TI := Lib.hid (show SlI w3 (.slice (some ⟨b, off + 1, none⟩) (m - 1) (c - 1)) (innerL l) by
        unfold innerL
        rw [show l.length - 2 = m - 1 by have := hn.out; omega]
        exact (TL.out.drop (k := 1) (c' := c - 1) (by omega) (by unfold maxLen; omega)).take (by omega) (by omega) (by unfold maxLen; omega))
      have LI := Lib.hid (show 0 < (innerL l).length by unfold innerL; rw [List.length_take, List.length_drop]; omega)
      have HXY := Lib.hid (show Small [x, y] from fun z hz => by simp at hz; rcases hz with rfl | rfl <;> assumption)
      have k0 := fun W (h : Ext w3 W) => c0 W (E3.out.trans h)
      have k1 := fun W (h : Ext w3 W) => c1 W (E3.out.trans h)
      clear c0 c1 hlong
      cases ha2 : alikeL [x, y] with
      | false =>
        have HA2 := Lib.hid ha2
        have HK := Lib.hid (show kindL l = 4 by rw [HKE.out, ha2]; rfl)
        clear ha2
        go_wp2
        refine wp_region_tame (fun W => Ext w3 W) (fun W W' => Ext W W') (by kernel_rfl) 49 rfl (by decide +kernel) (Ext.refl _).drew ?_
        repeat (apply tame_q rfl; (intro ρ W hC hr hD; (obtain ⟨hrc, hrg, hrf, hrs⟩ := hr); (simp [go_sem] at hD); go_simp; first | exact ⟨⟨hC, Ext.refl _⟩, rfl⟩ | exact ⟨⟨hC, RS.refl _⟩, rfl⟩ | exact rfl); simp only [List.nil_append, List.cons_append])
        apply tame_v rfl (TwoAt x y) (fun v W W' _ hE h => h.ext hE)
        · intro ρ W hC hr hD
          obtain ⟨hrc, hrg, hrf, hrs⟩ := hr
          simp [go_sem] at hD
          go_simp
          exact ⟨⟨hC.alloc _, Ext.al _ _⟩, ⟨_, rfl, by simp [go_sem], by simp [go_sem], by simp⟩⟩
        simp only [List.nil_append, List.cons_append]
        apply tame_q (v0 := .bool false) rfl
        · intro ρ W hC hr hD
          obtain ⟨hrc, hrg, hrf, hrs⟩ := hr
          simp [go_sem] at hD
          go_simp
          refine (alike_any [x, y] _ _ hD.sl (by simp) HXY.out).mono ?_
          rintro e w' ⟨rfl, hE⟩
          rw [HA2.out]
          exact ⟨_, rfl, ⟨hC.trans hE, hE⟩, rfl⟩
        simp only [List.nil_append, List.cons_append]
        repeat (apply tame_q rfl; (intro ρ W hC hr hD; (obtain ⟨hrc, hrg, hrf, hrs⟩ := hr); (simp [go_sem] at hD); go_simp; first | exact ⟨⟨hC, Ext.refl _⟩, rfl⟩ | exact ⟨⟨hC, RS.refl _⟩, rfl⟩ | exact rfl); simp only [List.nil_append, List.cons_append])
        refine tame_end 49 rfl rfl (fun ρ W hC hr hF => ?_)
        obtain ⟨hrc, hrg, hrf, hrs⟩ := hr
        simp [go_sem] at hF
        obtain ⟨b32, e32, -, -, -⟩ := hF.2.2.2.2.2.2.2.1
        apply frame_to
        · go_simp
          exact rfl
        clear hF hrs hrc hrg hrf
        go_wp2
        go_ret
        exact ⟨by rw [HK.out]; rfl, E3.out.trans hC⟩
      | true =>
        have HA2 := Lib.hid ha2
        clear ha2
        by_cases hmi : wo ≤ mins (innerL l)
        · by_cases hma : wo + 2 ≤ maxs l
          · have HK := Lib.hid (show kindL l = 3 by rw [HKE.out, HA2.out, decide_eq_true hmi, decide_eq_true hma]; rfl)
            go_wp2
            refine wp_region_tame (fun W => Ext w3 W) (fun W W' => Ext W W') (by kernel_rfl) 49 rfl (by decide +kernel) (Ext.refl _).drew ?_
            repeat (apply tame_q rfl; (intro ρ W hC hr hD; (obtain ⟨hrc, hrg, hrf, hrs⟩ := hr); (simp [go_sem] at hD); go_simp; first | exact ⟨⟨hC, Ext.refl _⟩, rfl⟩ | exact ⟨⟨hC, RS.refl _⟩, rfl⟩ | exact rfl); simp only [List.nil_append, List.cons_append])
            apply tame_v rfl (TwoAt x y) (fun v W W' _ hE h => h.ext hE)
            · intro ρ W hC hr hD
              obtain ⟨hrc, hrg, hrf, hrs⟩ := hr
              simp [go_sem] at hD
              go_simp
              exact ⟨⟨hC.alloc _, Ext.al _ _⟩, ⟨_, rfl, by simp [go_sem], by simp [go_sem], by simp⟩⟩
            simp only [List.nil_append, List.cons_append]
            apply tame_q (v0 := .bool true) rfl
            · intro ρ W hC hr hD
              obtain ⟨hrc, hrg, hrf, hrs⟩ := hr
              simp [go_sem] at hD
              go_simp
              refine (alike_any [x, y] _ _ hD.sl (by simp) HXY.out).mono ?_
              rintro e w' ⟨rfl, hE⟩
              rw [HA2.out]
              exact ⟨_, rfl, ⟨hC.trans hE, hE⟩, rfl⟩
            simp only [List.nil_append, List.cons_append]
            repeat (apply tame_q rfl; (intro ρ W hC hr hD; (obtain ⟨hrc, hrg, hrf, hrs⟩ := hr); (simp [go_sem] at hD); go_simp; first | exact ⟨⟨hC, Ext.refl _⟩, rfl⟩ | exact ⟨⟨hC, RS.refl _⟩, rfl⟩ | exact rfl); simp only [List.nil_append, List.cons_append])
            apply tame_q rfl
            · intro ρ W hC hr hD
              obtain ⟨hrc, hrg, hrf, hrs⟩ := hr
              simp [go_sem] at hD
              go_simp
              refine (f131_any (innerL l) _ _ (TI.out.ext hC) LI.out).mono ?_
              rintro e w' ⟨rfl, hE⟩
              exact ⟨_, rfl, ⟨hC.trans hE, hE⟩, rfl⟩
            simp only [List.nil_append, List.cons_append]
            repeat (apply tame_q rfl; (intro ρ W hC hr hD; (obtain ⟨hrc, hrg, hrf, hrs⟩ := hr); (simp [go_sem] at hD); go_simp; first | exact ⟨⟨hC, Ext.refl _⟩, rfl⟩ | exact ⟨⟨hC, RS.refl _⟩, rfl⟩ | exact rfl); simp only [List.nil_append, List.cons_append])
            apply tame_q rfl
            · intro ρ W hC hr hD
              obtain ⟨hrc, hrg, hrf, hrs⟩ := hr
              simp [go_sem] at hD
              go_simp
              refine (f132_any l _ _ (TL.out.ext hC) H0.out).mono ?_
              rintro e w' ⟨rfl, hE⟩
              exact ⟨_, rfl, ⟨hC.trans hE, hE⟩, rfl⟩
            simp only [List.nil_append, List.cons_append]
            repeat (apply tame_q rfl; (intro ρ W hC hr hD; (obtain ⟨hrc, hrg, hrf, hrs⟩ := hr); (simp [go_sem] at hD); go_simp; first | exact ⟨⟨hC, Ext.refl _⟩, rfl⟩ | exact ⟨⟨hC, RS.refl _⟩, rfl⟩ | exact rfl); simp only [List.nil_append, List.cons_append])
            refine tame_end 49 rfl rfl (fun ρ W hC hr hF => ?_)
            obtain ⟨hrc, hrg, hrf, hrs⟩ := hr
            simp [go_sem] at hF
            obtain ⟨b32, e32, -, -, -⟩ := hF.2.2.2.2.2.2.2.1
            apply frame_to
            · go_simp
              exact rfl
            clear hF hrs hrc hrg hrf
            go_wp2
            go_ret
            exact ⟨by rw [HK.out]; rfl, E3.out.trans hC⟩
          · have HK := Lib.hid (show kindL l = 4 by rw [HKE.out, decide_eq_false hma, Bool.and_false]; rfl)
            go_wp2
            refine wp_region_tame (fun W => Ext w3 W) (fun W W' => Ext W W') (by kernel_rfl) 49 rfl (by decide +kernel) (Ext.refl _).drew ?_
            repeat (apply tame_q rfl; (intro ρ W hC hr hD; (obtain ⟨hrc, hrg, hrf, hrs⟩ := hr); (simp [go_sem] at hD); go_simp; first | exact ⟨⟨hC, Ext.refl _⟩, rfl⟩ | exact ⟨⟨hC, RS.refl _⟩, rfl⟩ | exact rfl); simp only [List.nil_append, List.cons_append])
            apply tame_v rfl (TwoAt x y) (fun v W W' _ hE h => h.ext hE)
            · intro ρ W hC hr hD
              obtain ⟨hrc, hrg, hrf, hrs⟩ := hr
              simp [go_sem] at hD
              go_simp
              exact ⟨⟨hC.alloc _, Ext.al _ _⟩, ⟨_, rfl, by simp [go_sem], by simp [go_sem], by simp⟩⟩
            simp only [List.nil_append, List.cons_append]
            apply tame_q (v0 := .bool true) rfl
            · intro ρ W hC hr hD
              obtain ⟨hrc, hrg, hrf, hrs⟩ := hr
              simp [go_sem] at hD
              go_simp
              refine (alike_any [x, y] _ _ hD.sl (by simp) HXY.out).mono ?_
              rintro e w' ⟨rfl, hE⟩
              rw [HA2.out]
              exact ⟨_, rfl, ⟨hC.trans hE, hE⟩, rfl⟩
            simp only [List.nil_append, List.cons_append]
            repeat (apply tame_q rfl; (intro ρ W hC hr hD; (obtain ⟨hrc, hrg, hrf, hrs⟩ := hr); (simp [go_sem] at hD); go_simp; first | exact ⟨⟨hC, Ext.refl _⟩, rfl⟩ | exact ⟨⟨hC, RS.refl _⟩, rfl⟩ | exact rfl); simp only [List.nil_append, List.cons_append])
            apply tame_q rfl
            · intro ρ W hC hr hD
              obtain ⟨hrc, hrg, hrf, hrs⟩ := hr
              simp [go_sem] at hD
              go_simp
              refine (f131_any (innerL l) _ _ (TI.out.ext hC) LI.out).mono ?_
              rintro e w' ⟨rfl, hE⟩
              exact ⟨_, rfl, ⟨hC.trans hE, hE⟩, rfl⟩
            simp only [List.nil_append, List.cons_append]
            repeat (apply tame_q rfl; (intro ρ W hC hr hD; (obtain ⟨hrc, hrg, hrf, hrs⟩ := hr); (simp [go_sem] at hD); go_simp; first | exact ⟨⟨hC, Ext.refl _⟩, rfl⟩ | exact ⟨⟨hC, RS.refl _⟩, rfl⟩ | exact rfl); simp only [List.nil_append, List.cons_append])
            apply tame_q rfl
            · intro ρ W hC hr hD
              obtain ⟨hrc, hrg, hrf, hrs⟩ := hr
              simp [go_sem] at hD
              go_simp
              refine (f132_any l _ _ (TL.out.ext hC) H0.out).mono ?_
              rintro e w' ⟨rfl, hE⟩
              exact ⟨_, rfl, ⟨hC.trans hE, hE⟩, rfl⟩
            simp only [List.nil_append, List.cons_append]
            repeat (apply tame_q rfl; (intro ρ W hC hr hD; (obtain ⟨hrc, hrg, hrf, hrs⟩ := hr); (simp [go_sem] at hD); go_simp; first | exact ⟨⟨hC, Ext.refl _⟩, rfl⟩ | exact ⟨⟨hC, RS.refl _⟩, rfl⟩ | exact rfl); simp only [List.nil_append, List.cons_append])
            refine tame_end 49 rfl rfl (fun ρ W hC hr hF => ?_)
            obtain ⟨hrc, hrg, hrf, hrs⟩ := hr
            simp [go_sem] at hF
            obtain ⟨b32, e32, -, -, -⟩ := hF.2.2.2.2.2.2.2.1
            apply frame_to
            · go_simp
              exact rfl
            clear hF hrs hrc hrg hrf
            go_wp2
            go_ret
            exact ⟨by rw [HK.out]; rfl, E3.out.trans hC⟩
        · have HK := Lib.hid (show kindL l = 4 by rw [HKE.out, decide_eq_false hmi, Bool.and_false, Bool.false_and]; rfl)
          have hmi2 : decide (wo ≤ mins (innerL l)) = false := decide_eq_false hmi
          go_wp2
          refine wp_region_tame (fun W => Ext w3 W) (fun W W' => Ext W W') (by kernel_rfl) 49 rfl (by decide +kernel) (Ext.refl _).drew ?_
          repeat (apply tame_q rfl; (intro ρ W hC hr hD; (obtain ⟨hrc, hrg, hrf, hrs⟩ := hr); (simp [go_sem] at hD); go_simp; first | exact ⟨⟨hC, Ext.refl _⟩, rfl⟩ | exact ⟨⟨hC, RS.refl _⟩, rfl⟩ | exact rfl); simp only [List.nil_append, List.cons_append])
          apply tame_v rfl (TwoAt x y) (fun v W W' _ hE h => h.ext hE)
          · intro ρ W hC hr hD
            obtain ⟨hrc, hrg, hrf, hrs⟩ := hr
            simp [go_sem] at hD
            go_simp
            exact ⟨⟨hC.alloc _, Ext.al _ _⟩, ⟨_, rfl, by simp [go_sem], by simp [go_sem], by simp⟩⟩
          simp only [List.nil_append, List.cons_append]
          apply tame_q (v0 := .bool true) rfl
          · intro ρ W hC hr hD
            obtain ⟨hrc, hrg, hrf, hrs⟩ := hr
            simp [go_sem] at hD
            go_simp
            refine (alike_any [x, y] _ _ hD.sl (by simp) HXY.out).mono ?_
            rintro e w' ⟨rfl, hE⟩
            rw [HA2.out]
            exact ⟨_, rfl, ⟨hC.trans hE, hE⟩, rfl⟩
          simp only [List.nil_append, List.cons_append]
          repeat (apply tame_q rfl; (intro ρ W hC hr hD; (obtain ⟨hrc, hrg, hrf, hrs⟩ := hr); (simp [go_sem] at hD); go_simp; first | exact ⟨⟨hC, Ext.refl _⟩, rfl⟩ | exact ⟨⟨hC, RS.refl _⟩, rfl⟩ | exact rfl); simp only [List.nil_append, List.cons_append])
          apply tame_q rfl
          · intro ρ W hC hr hD
            obtain ⟨hrc, hrg, hrf, hrs⟩ := hr
            simp [go_sem] at hD
            go_simp
            refine (f131_any (innerL l) _ _ (TI.out.ext hC) LI.out).mono ?_
            rintro e w' ⟨rfl, hE⟩
            exact ⟨_, rfl, ⟨hC.trans hE, hE⟩, rfl⟩
          simp only [List.nil_append, List.cons_append]
          repeat (apply tame_q rfl; (intro ρ W hC hr hD; (obtain ⟨hrc, hrg, hrf, hrs⟩ := hr); (simp [go_sem] at hD); go_simp; first | exact ⟨⟨hC, Ext.refl _⟩, rfl⟩ | exact ⟨⟨hC, RS.refl _⟩, rfl⟩ | exact rfl); simp only [List.nil_append, List.cons_append])
          refine tame_end 49 rfl rfl (fun ρ W hC hr hF => ?_)
          obtain ⟨hrc, hrg, hrf, hrs⟩ := hr
          simp [go_sem] at hF
          obtain ⟨b32, e32, -, -, -⟩ := hF.2.2.2.2.2.2.2.1
          apply frame_to
          · go_simp
            exact rfl
          clear hF hrs hrc hrg hrf
          go_wp2
          go_ret
          exact ⟨by rw [HK.out]; rfl, E3.out.trans hC⟩
end Go.Proofs.YtcoiahjehlplfaaDoor
