/- What MillRun says: plain; the lots of a plan one by one, and their sums. -/
import Derived.Test.YtkpengeaolcjhaaGreatDoorPkMlSwapCardA
import Derived.Test.YtkpengeaolcjhaaGreatDoorPkMlBestCardU
import Derived.Test.YtkpengeaolcjhaaGreatDoorPkMlBestCardX
import Derived.Test.YtkpengeaolcjhaaGreatDoorPkMlBestCardY
import Derived.Test.YtkpengeaolcjhaaGreatDoorPkMlBestCardT
namespace Go.Proofs.YtkpengeaolcjhaaGreatDoor
set_option linter.unusedSimpArgs false

theorem lotL_consI (a v : Int) (p vs : List Int) (j : Int) : lotL (a :: p) (v :: vs) j = if a = j then v :: lotL p vs j else lotL p vs j := by
  rw [lotL_cons]
  split <;> rfl
theorem lotL_idx {j : Int} : ∀ {p u v : List Int}, p.length = u.length → p.length = v.length → ∀ (k : Nat) (x : Int), (lotL p u j)[k]? = some x → ∃ i : Nat, p[i]? = some j ∧ u[i]? = some x ∧ (lotL p v j)[k]? = v[i]?
  | [], _, _, _, _, k, x, h => by simp [lotL] at h
  | a :: p, b :: u, c :: v, h1, h2, k, x, h => by
    have ih := lotL_idx (j := j) (p := p) (u := u) (v := v) (by simpa using h1) (by simpa using h2)
    rw [lotL_consI] at h ⊢
    by_cases e : a = j
    · rw [if_pos e] at h ⊢
      cases k with
      | zero =>
        refine ⟨0, by simp [e], by simpa using h, by simp⟩
      | succ k =>
        obtain ⟨i, g1, g2, g3⟩ := ih k x (by simpa using h)
        exact ⟨i + 1, by simpa using g1, by simpa using g2, by simpa using g3⟩
    · rw [if_neg e] at h ⊢
      obtain ⟨i, g1, g2, g3⟩ := ih k x (by simpa using h)
      exact ⟨i + 1, by simpa using g1, by simpa using g2, by simpa using g3⟩
theorem lotL_sub {j : Int} : ∀ {p v : List Int}, (lotL p v j).Sublist v
  | [], _ => by simp [lotL]
  | _ :: _, [] => by simp [lotL]
  | a :: p, x :: v => by
    have ih := lotL_sub (j := j) (p := p) (v := v)
    rw [lotL_consI]
    split
    · exact ih.cons_cons x
    · exact ih.cons x
theorem lot_up {m : Mll} (hc : checkM m = true) (p : List Int) (j : Int) : (lotL p (idsL m) j).Pairwise (· < ·) := by
  refine List.Pairwise.sublist lotL_sub ?_
  unfold idsL
  rw [List.pairwise_map]
  exact cots_pw hc
theorem lot_up_at {m : Mll} (hc : checkM m = true) {p : List Int} {j x y : Int} {k : Nat} (hx : (lotL p (idsL m) j)[k]? = some x) (hy : (lotL p (idsL m) j)[k + 1]? = some y) : x < y := by
  obtain ⟨h1, e1⟩ := List.getElem?_eq_some_iff.1 hx
  obtain ⟨h2, e2⟩ := List.getElem?_eq_some_iff.1 hy
  rw [← e1, ← e2]
  exact List.pairwise_iff_getElem.1 (lot_up hc p j) k (k + 1) h1 h2 (Nat.lt_succ_self k)
theorem lotL_over {p v : List Int} {lots j : Int} (h : ∀ x ∈ p, x ≤ lots) (hj : lots < j) : lotL p v j = [] := by
  refine List.eq_nil_iff_forall_not_mem.2 fun x hx => ?_
  obtain ⟨i, hi, -⟩ := lotL_iff.1 hx
  have := h j (List.mem_of_getElem? hi)
  omega
/-- The bale of a lot, its place in the mill, its lot and its length. -/
theorem lot_at {m : Mll} (hc : checkM m = true) {p : List Int} (hp : p.length = m.cots.length) {j x : Int} {k : Nat} (hx : (lotL p (idsL m) j)[k]? = some x) :
    ∃ (i : Nat) (c : Cot), m.cots[i]? = some c ∧ placeM m x = (i : Int) ∧ p[i]? = some j ∧ (lotL p (lensL m) j)[k]? = some c.len := by
  obtain ⟨i, h1, h2, h3⟩ := lotL_idx (v := lensL m) (by simp [idsL, hp]) (by simp [lensL, hp]) k x hx
  unfold idsL at h2
  rw [List.getElem?_map] at h2
  obtain ⟨c, hc1, rfl⟩ := Option.map_eq_some_iff.1 h2
  refine ⟨i, c, hc1, place_at hc hc1, h1, ?_⟩
  rw [h3]
  unfold lensL
  rw [List.getElem?_map, hc1]
  rfl
theorem lot_len {m : Mll} (hm : Mok m) {p : List Int} (hp : p ∈ plansL m) {i : Nat} (hi : (i : Int) < m.lots) : ((lotL p (idsL m) ((i : Int) + 1)).length : Int) = m.size := by
  obtain ⟨h1, -, h3⟩ := plans_mem hm hp
  have := hm.l3
  rw [lotL_len (by simp [idsL, h1]), h3 i (by omega), if_pos hi]
theorem lot_lens {m : Mll} {p : List Int} (hp : p.length = m.cots.length) (j : Int) : (lotL p (lensL m) j).length = (lotL p (idsL m) j).length := by
  have h1 := lotL_len (plan := p) (vals := lensL m) (by simp [lensL, hp]) j
  have h2 := lotL_len (plan := p) (vals := idsL m) (by simp [idsL, hp]) j
  omega
/-! The sums. -/
def qV (p v : List Int) (k j : Nat) : List Value := .int .i64 0 :: (sumsQ 3 p v k j).map fun x => Value.int .i64 x
theorem qV_zero (p v : List Int) : qV p v 0 0 = [.int .i64 0, .int .i64 0, .int .i64 0, .int .i64 0] := by
  unfold qV
  rw [sumsQ_zero]
  rfl
theorem qV_at {p v : List Int} {k j : Nat} (hk : k < 3) : (qV p v k j)[k + 1]? = some (.int .i64 ((lotL p v ((k : Int) + 1)).take j).sum) := by
  unfold qV
  rw [List.getElem?_cons_succ, List.getElem?_map, sumsQ_at hk]
  rfl
theorem qV_succ {p v : List Int} {k j : Nat} {x : Int} (hx : (lotL p v ((k : Int) + 1))[j]? = some x) : qV p v k (j + 1) = (qV p v k j).set (k + 1) (.int .i64 (((lotL p v ((k : Int) + 1)).take j).sum + x)) := by
  unfold qV
  rw [sumsQ_succ hx, List.set_cons_succ, List.map_set]
theorem qV_row {p v : List Int} {k j : Nat} (hj : (lotL p v ((k : Int) + 1)).length ≤ j) : qV p v (k + 1) 0 = qV p v k j := by
  unfold qV
  rw [sumsQ_row hj]
theorem qV_full {p v : List Int} {n : Nat} (h : ∀ x ∈ p, x ≤ (n : Int)) : qV p v n 0 = [.int .i64 0, .int .i64 (sumAt p v 1), .int .i64 (sumAt p v 2), .int .i64 (sumAt p v 3)] := by
  have e : sumsQ 3 p v n 0 = [sumAt p v 1, sumAt p v 2, sumAt p v 3] := by
    have g : ∀ i : Nat, (if i < n then sumAt p v ((i : Int) + 1) else if i = n then ((lotL p v ((i : Int) + 1)).take 0).sum else 0) = sumAt p v ((i : Int) + 1) := fun i => by
      by_cases hi : i < n
      · rw [if_pos hi]
      · rw [if_neg hi]
        unfold sumAt
        rw [lotL_over (j := (i : Int) + 1) h (by omega)]
        split <;> simp
    unfold sumsQ
    simp only [g]
    rfl
  unfold qV
  rw [e]
  rfl
theorem sum_take_bd {m : Mll} (hm : Mok m) {p : List Int} (hp : p.length ≤ 7) (j : Int) (k : Nat) : 0 ≤ ((lotL p (lensL m) j).take k).sum ∧ ((lotL p (lensL m) j).take k).sum ≤ 420 := by
  have h := sum_bd (b := 60) (l := (lotL p (lensL m) j).take k) (fun x hx => by
    have h1 := lotL_mem (List.mem_of_mem_take hx)
    unfold lensL at h1
    obtain ⟨c, hc, rfl⟩ := List.mem_map.1 h1
    have := hm.len c hc
    omega)
  have hl : ((lotL p (lensL m) j).take k).length ≤ 7 := by
    rw [List.length_take]
    have : (lotL p (lensL m) j).length ≤ 7 := by
      unfold lotL
      rw [List.length_map]
      exact Nat.le_trans (List.length_filter_le _ _) (by rw [List.length_zip]; omega)
    omega
  omega
/-- The order that is told. -/
theorem run_told {m : Mll} {p : List Int} (h : judgeE m p = 0) : runL m p ∈ runsL m.lots.toNat ∧ runT m p = stepL (sumAt p (lensL m)) (runL m p) ∧ ∀ x ∈ runsL m.lots.toNat, stepL (sumAt p (lensL m)) (runL m p) ≤ stepL (sumAt p (lensL m)) x ∧ (stepL (sumAt p (lensL m)) x = stepL (sumAt p (lensL m)) (runL m p) → befL x (runL m p) = false) := by
  obtain ⟨b, hb, hm⟩ := run_some (sumAt p (lensL m)) m.lots.toNat
  have e : runL m p = b := by
    unfold runL
    rw [if_pos h]
    have h2 : firstM (lessO (ordS (sumAt p (lensL m)))) (runsL m.lots.toNat) = some b := hb
    rw [h2]
    rfl
  refine ⟨by rw [e]; exact hm, ?_, fun x hx => ?_⟩
  · unfold runT
    rw [if_pos h]
  · rw [e]
    exact run_first hb hx
end Go.Proofs.YtkpengeaolcjhaaGreatDoor
/- The law MillRun: the walk. -/
namespace Go.Proofs.YtkpengeaolcjhaaGreatDoor
open Go.RowKit Go.Shelf Go.Lib
set_option maxRecDepth 100000
set_option linter.unusedSimpArgs false

section
variable {P : Program} {C : World → Prop} {R : World → World → Prop} {a0 : Act} {N : World → Prop} {l0 : List Oper} {s : Nat} {ds : List (Option Tmp)} {Q : Act → World → Prop} {n : Nat} {F : Facts}
theorem tameN_end_putR (hds : F.map (·.1) = ds) (hn : n = F.length) (h : ∀ ρ W, C W → Rd a0 ds ρ → allF F ρ W → Q { tmps := (putF ρ F a0.tmps.toList).toArray, defers := a0.defers } W) : wpTameN P C R N l0 s ds a0 Q n [] F :=
  tame_end_put (P := P) (R := R) hds hn h
end
set_option maxHeartbeats 16000000 in
theorem millRun_of (hA : AliveM) (lots size : Int) (by' : List Int) (x2 x3 : Int) (l : List Rc) (sv bv : Value) (w : World) (hT : TabM w) (hs : MlC w sv l) (hbs : Sl encU8 1 w bv by') (hbb : ∀ x ∈ by', 0 ≤ x ∧ x ≤ 255) (hx2 : 0 ≤ x2 ∧ x2 ≤ 255) (hx3 : 0 ≤ x3 ∧ x3 ≤ 255) :
    Calls Tryz.prog 9 #[valM lots size sv, bv, .int .u8 x2, .int .u8 x3] w fun e w' => e = .returned (.bool true) ∧ Ext w w' := by
  have HBS := Lib.hid hbs; have HBB := Lib.hid hbb
  obtain ⟨hx20, hx25⟩ := hx2
  obtain ⟨hx30, hx35⟩ := hx3
  clear hbs hbb
  have HS := Lib.hid hs; have HT := Lib.hid hT
  obtain ⟨A, n, c, rfl, hn, hlc, hcm⟩ := hs.1.form
  have HL := Lib.hid (show l.length = n from hn.out.symm)
  clear hs hT hn
  go_enter Tryz.func9, Tryz.ntmps9
  go_wp2_with fail
  have E0 := Lib.hid (Ext.al w (.cells #[.int .i64 lots, .int .i64 size, .slice A n c] 24))
  have B0 := Lib.hid (Blk.new w 24 #[.int .i64 lots, .int .i64 size, .slice A n c])
  refine (hA _ (HT.out.ext E0.out)).mono ?_
  rintro e w1 ⟨rfl, hE⟩
  have E1 := Lib.hid (E0.out.trans hE)
  have B1 := Lib.hid (B0.out.ext hE)
  clear hE E0 B0 hA
  obtain ⟨b0, b1, b2, bf, bl⟩ := B1.out.c3
  go_wp2_with fail
  refine (readyM_any lots size l _ _ (HS.out.ext E1.out)).mono ?_
  rintro e w2 ⟨rfl, hE⟩
  have E2 := Lib.hid (E1.out.trans hE)
  have B2 := Lib.hid (B1.out.ext hE)
  clear hE E1 B1 b0 b1 b2 bf bl
  obtain ⟨rd, hrd⟩ : ∃ rd, (!greatM l && checkM (mOf lots size l)) = rd := ⟨_, rfl⟩
  rw [hrd]
  cases rd with
  | false =>
    clear hrd
    go_wp2
    go_ret
    exact ⟨rfl, E2.out⟩
  | true =>
  rw [Bool.and_eq_true] at hrd
  have HG := Lib.hid (show greatM l = false by have h := hrd.1; revert h; cases greatM l <;> simp)
  have HC := Lib.hid hrd.2
  have HMO := Lib.hid (mok_of hrd.2)
  have HN7 := Lib.hid (show n ≤ 7 by have h := HMO.out.n7; simp at h; have := HL.out; omega)
  have HLN := Lib.hid (show l.length ≤ 900 by have := HN7.out; have := HL.out; omega)
  clear hrd
  obtain ⟨b0, b1, b2, bf, bl⟩ := B2.out.c3
  go_wp2_with fail
  refine (fitted_any lots size l _ _ (HT.out.ext E2.out) (HS.out.ext E2.out) HC.out).mono ?_
  rintro e w3 ⟨⟨fv, rfl, hfv⟩, hE⟩
  have E3 := Lib.hid (E2.out.trans hE)
  have B3 := Lib.hid (B2.out.ext hE)
  have F3 := Lib.hid (show SlBo w3 fv (fitL (mOf lots size l)) from hfv.sl (fun _ => rfl))
  clear hE hfv E2 B2 b0 b1 b2 bf bl
  obtain ⟨b0, b1, b2, bf, bl⟩ := B3.out.c3
  go_wp2_with fail
  refine (chosenM_any lots size l by' _ _ _ _ (HS.out.ext E3.out) HC.out F3.out (HBS.out.ext E3.out) HBB.out).mono ?_
  rintro e w4 ⟨hch, hE⟩
  have E4 := Lib.hid (E3.out.trans hE)
  have B4 := Lib.hid (B3.out.ext hE)
  clear hE E3 B3 F3 b0 b1 b2 bf bl
  rcases hch with ⟨v, p, rfl, hsl, hok⟩ | ⟨rfl, hno⟩
  · have HP := Lib.hid (plan_of_ok HMO.out hok)
    have HOK := Lib.hid hok
    have S4 := Lib.hid hsl
    have hpn := (plans_mem HMO.out HP.out).1
    have HRA := Lib.hid (plans_mem HMO.out HP.out).2.1
    have HPL0 := Lib.hid (show p.length = l.length by simpa using hpn)
    obtain ⟨lt, hlt⟩ : ∃ lt : Nat, lots = (lt : Int) := ⟨lots.toNat, by have h : 1 ≤ lots := HMO.out.l1; omega⟩
    obtain ⟨sz, hsz⟩ : ∃ sz : Nat, size = (sz : Int) := ⟨size.toNat, by have h : 2 ≤ size := HMO.out.s2; omega⟩
    subst hlt hsz
    clear hok hsl hpn
    obtain ⟨A2, n2, c2, rfl, hn2, hlc2, hcm2⟩ := S4.out.form
    obtain rfl : n2 = n := by have := hn2.out; have := HPL0.out; have := HL.out; omega
    have HPL := Lib.hid (show p.length = n2 from hn2.out.symm)
    have hn7 : n2 ≤ 7 := HN7.out
    have hl1 : 1 ≤ lt := by have := HMO.out.l1; simp only at this; omega
    have hl3 : lt ≤ 3 := by have := HMO.out.l3; simp only at this; omega
    have hs2 : 2 ≤ sz := by have := HMO.out.s2; simp only at this; omega
    have hs4 : sz ≤ 4 := by have := HMO.out.s4; simp only at this; omega
    clear hn2
    have HJ := Lib.hid (judgeE_ok HC.out HOK.out)
    obtain ⟨m, hm⟩ : ∃ m, mOf (lt : Int) (sz : Int) l = m := ⟨_, rfl⟩
    have HM := Lib.hid hm
    have HLO := Lib.hid (lotsP_ok HJ.out)
    have HRT := Lib.hid (run_told HJ.out)
    have HLL := Lib.hid (show ∀ i : Nat, i < lt → (lotL p (idsL (mOf (lt : Int) (sz : Int) l)) ((i : Int) + 1)).length = sz from fun i hi => by
      have h := lot_len HMO.out HP.out (i := i) (by show (i : Int) < (lt : Int); omega)
      simp only at h
      omega)
    have HLN2 := Lib.hid (show ∀ i : Nat, (lotL p (lensL (mOf (lt : Int) (sz : Int) l)) ((i : Int) + 1)).length = (lotL p (idsL (mOf (lt : Int) (sz : Int) l)) ((i : Int) + 1)).length from fun i => lot_lens (by simp [HPL0.out]) _)
    have HLA := Lib.hid (fun (j x : Int) (k : Nat) => lot_at (m := mOf (lt : Int) (sz : Int) l) HC.out (p := p) (by simp [HPL0.out]) (j := j) (x := x) (k := k))
    have HUP := Lib.hid (fun (j x y : Int) (k : Nat) => lot_up_at (m := mOf (lt : Int) (sz : Int) l) HC.out (p := p) (j := j) (x := x) (y := y) (k := k))
    have HSB := Lib.hid (fun (j : Int) (k : Nat) => sum_take_bd HMO.out (p := p) (by have := HPL.out; omega) j k)
    have HQF := Lib.hid (qV_full (p := p) (v := lensL (mOf (lt : Int) (sz : Int) l)) (n := lt) (fun x hx => (HRA.out x hx).2))
    obtain ⟨b0, b1, b2, bf, bl⟩ := B4.out.c3
    go_wp2_with fail
    refine (lotsM_any (lt : Int) (sz : Int) l p _ _ _ (HT.out.ext E4.out) (HS.out.ext E4.out) S4.out (by have := HLN.out; omega)).mono ?_
    rintro e w5 ⟨⟨vl, rfl, hrd⟩, hE⟩
    rw [HJ.out]
    rw [HLO.out] at hrd
    have E5 := Lib.hid (E4.out.trans hE)
    have B5 := Lib.hid (B4.out.ext hE)
    have S5 := Lib.hid (S4.out.ext hE)
    have R5 := Lib.hid hrd
    clear hE E4 B4 S4 hrd b0 b1 b2 bf bl
    obtain ⟨b0, b1, b2, bf, bl⟩ := B5.out.c3
    go_wp2_with fail
    refine (runM_any (lt : Int) (sz : Int) l p _ _ _ (HT.out.ext E5.out) (HS.out.ext E5.out) S5.out (by have := HLN.out; omega)).mono ?_
    rintro e w6 ⟨⟨vo, rfl, hro⟩, hE⟩
    rw [HJ.out, HRT.out.2.1]
    have E6 := Lib.hid (E5.out.trans hE)
    have B6 := Lib.hid (B5.out.ext hE)
    have S6 := Lib.hid (S5.out.ext hE)
    have R6 := Lib.hid (R5.out.ext hE)
    have O6 := Lib.hid hro
    clear hE E5 B5 S5 R5 hro b0 b1 b2 bf bl
    obtain ⟨ts, hts, htl, htr⟩ := R6.out
    obtain ⟨A3, n3, c3, rfl, hn3, hlc3, hcm3⟩ := hts.form
    obtain rfl : n3 = lt := by have := hn3.out; rw [htl] at this; simp [lotsL] at this; omega
    have TS := Lib.hid hts
    have TR := Lib.hid (show ∀ (i : Nat) (t : Tri), i < n3 → ts[i]? = some t → SlI w6 (.slice t.1 t.2.1 t.2.2) (lotL p (idsL (mOf (n3 : Int) (sz : Int) l)) ((i : Int) + 1)) from fun i t hi h => htr i t _ h (by
      unfold lotsL
      rw [List.getElem?_map, List.getElem?_range (by simp; omega)]
      rfl))
    clear hts htl htr R6 hn3
    obtain ⟨A4, n4, c4, rfl, hn4, hlc4, hcm4⟩ := O6.out.form
    obtain ⟨od, hod⟩ : ∃ od, runL (mOf (n3 : Int) (sz : Int) l) p = od := ⟨_, rfl⟩
    obtain ⟨f, hf⟩ : ∃ f, sumAt p (lensL (mOf (n3 : Int) (sz : Int) l)) = f := ⟨_, rfl⟩
    rw [hod, hf] at HRT ⊢
    rw [hod] at O6 hn4
    have HF := Lib.hid hf
    have HOM := Lib.hid (show od ∈ runsL n3 by have h := HRT.out.1; simpa using h)
    obtain rfl : n4 = n3 := by have := hn4.out; have := (runsL_mem HOM.out).1; omega
    have HRB := Lib.hid (show ∀ x ∈ runsL n4, stepL f od ≤ stepL f x ∧ (stepL f x = stepL f od → befL x od = false) from fun x hx => HRT.out.2.2 x (by simpa using hx))
    have HFB := Lib.hid (show ∀ x, 0 ≤ f x ∧ f x ≤ 9000 from fun x => by
      have h := sumAt_bd (p := p) (vals := lensL (mOf (n4 : Int) (sz : Int) l)) (lot := x) (by have := HPL.out; omega) (fun y hy => by
        unfold lensL at hy
        obtain ⟨z, hz, rfl⟩ := List.mem_map.1 hy
        have := HMO.out.len z hz
        omega)
      rw [← HF.out]
      omega)
    obtain ⟨st, hst⟩ : ∃ st, stepL f od = st := ⟨_, rfl⟩
    have HST := Lib.hid hst
    rw [hst]
    rw [hst] at HRB
    clear hod hf hn4 HRT hm HM m hst HLO
    obtain ⟨vs, hvs⟩ : ∃ vs, lensL (mOf (n4 : Int) (sz : Int) l) = vs := ⟨_, rfl⟩
    obtain ⟨ids, hids⟩ : ∃ ids, idsL (mOf (n4 : Int) (sz : Int) l) = ids := ⟨_, rfl⟩
    rw [hvs] at HLN2 HLA HSB HQF HF
    rw [hids] at HLL HLN2 HLA HUP TR
    clear hvs hids
    obtain ⟨b0, b1, b2, bf, bl⟩ := B6.out.c3
    go_upto_region 15 with (fail)
    obtain ⟨w7, hw7⟩ : ∃ w7, w7 = w6.alloc (.cells #[.int .i64 0, .int .i64 0, .int .i64 0, .int .i64 0] 77) := ⟨_, rfl⟩
    rw [← hw7]
    obtain ⟨bq, hbq⟩ : ∃ bq, bq = w6.heap.size := ⟨_, rfl⟩
    rw [← hbq]
    have K7 := Lib.hid (show Blk w7 bq 77 (qV p vs 0 0).toArray from by rw [qV_zero, hbq, hw7]; exact Blk.new _ _ _)
    have E7 := Lib.hid (show Ext w6 w7 from hw7 ▸ Ext.al _ _)
    have HBQ := Lib.hid (show w6.heap.size ≤ bq by omega)
    clear hw7 hbq b0 b1 b2 bf bl
    go_wp2
    go_loopg [93] n4 (fun gg s93 wr => ∃ i : Nat, i ≤ n4 ∧ n4 - i ≤ gg ∧ s93 = .int .i64 (i : Int) ∧ Aside (Blk wr bq 77 (qV p vs i 0).toArray) ∧ Aside (Ext w6 wr))
    case atStart => exact ⟨0, by omega, by omega, by simp, K7.out, E7.out⟩
    case round =>
      obtain ⟨i, hi, hgi, rfl, KW, EW⟩ := hrel
      by_cases hin : i < n4
      · -- BLOCK a
        have hiz : (i : Int) < (n4 : Int) := by omega
        have hi0 : (0 : Int) ≤ (i : Int) := by omega
        obtain ⟨bl3, off3, t, rfl, ht, -, hct⟩ := TS.out.at_ hin
        have LX := Lib.hid (TR.out i t hin ht)
        have d0 := tri_cell hct EW.out
        obtain ⟨tA, tn, tc⟩ := t
        simp only at LX d0
        obtain rfl : tn = sz := by
          obtain ⟨_, _, e, _⟩ := LX.out
          injection e with _ e _
          rw [e]
          exact HLL.out i hin
        have hlc5 : tn ≤ tc ∧ tc ≤ maxLen := by
          obtain ⟨A', n', c', e, -, h1, h2⟩ := LX.out.form
          injection e with _ e1 e2
          rw [e1, e2]
          exact ⟨h1, h2⟩
        obtain ⟨hlc6, hlc7⟩ := hlc5
        clear ht hct
        obtain ⟨b0, b1, b2, bf, bl⟩ := (B6.out.ext EW.out).c3
        go_wp2
        clear d0 b0 b1 b2 bf bl
        rename World => wO
        go_loopg [105] tn (fun gg s105 wr => ∃ k : Nat, k ≤ tn ∧ tn - k ≤ gg ∧ s105 = .int .i64 (k : Int) ∧ Aside (Blk wr bq 77 (qV p vs i k).toArray) ∧ Aside (Ext w6 wr))
        case atStart => exact ⟨0, by omega, by omega, by simp, KW.out, EW.out⟩
        case round =>
          obtain ⟨k, hk, hgk, rfl, KK, EK⟩ := hrel
          by_cases hks : k < tn
          · have hkz : (k : Int) < (tn : Int) := by omega
            have hk0 : (0 : Int) ≤ (k : Int) := by omega
            obtain ⟨bl4, off4, y, rfl, hy, -, hcy⟩ := LX.out.at_ hks
            obtain ⟨a, c, hca, hpl, hpa, hle⟩ := HLA.out _ _ _ hy
            have HPL2 := Lib.hid hpl
            have han : a < n2 := by have := (List.getElem?_eq_some_iff.1 hpa).1; have := HPL.out; omega
            have c0 := SlI.cell hcy EK.out
            obtain ⟨b0, b1, b2, bf, bl⟩ := (B6.out.ext EK.out).c3
            go_wp2_with fail
            refine (indexM_any (n4 : Int) (tn : Int) y l _ _ (HS.out.ext (E6.out.trans EK.out)) HLN.out).mono ?_
            rintro e wI ⟨rfl, hE⟩
            rw [HPL2.out]
            have EI := Lib.hid (EK.out.trans hE)
            have KI := Lib.hid (KK.out.ext hE)
            have BI := Lib.hid (B6.out.ext EI.out)
            obtain ⟨b5, off5, x, rfl, hx, -, hcx⟩ := HS.out.1.at_ han
            have hxc : x.c = c := by
              rw [List.getElem?_map, hx] at hca
              simpa using hca
            obtain ⟨b6, off6, pa, rfl, hpa2, -, hcp⟩ := S6.out.at_ han
            obtain ⟨q, hq, hq1⟩ : ∃ q : Nat, IntKind.i64.wrap ((i : Int) + 1) = (q : Int) ∧ q = i + 1 := ⟨i + 1, by rw [show (i : Int) + 1 = ((i + 1 : Nat) : Int) by omega]; exact wrap_nat (by omega), rfl⟩
            have HQ := Lib.hid hq1
            obtain rfl : pa = (q : Int) := by rw [hpa] at hpa2; injection hpa2 with h; omega
            have hqz : (q : Int) < 4 := by omega
            have hq0 : (0 : Int) ≤ (q : Int) := by omega
            have hq4 : q < 4 := by omega
            have han0 : (0 : Int) ≤ (a : Int) := by omega
            have hanz : (a : Int) < (n2 : Int) := by omega
            have hneg : ¬ (a : Int) < 0 := by omega
            obtain ⟨S0, hS0⟩ : ∃ S0, ((lotL p vs ((i : Int) + 1)).take k).sum = S0 := ⟨_, rfl⟩
            have hsb := HSB.out ((i : Int) + 1) k
            rw [hS0] at hsb
            have hcl := HMO.out.len c (by rw [← hxc]; exact List.mem_map.2 ⟨x, List.mem_of_getElem? hx, rfl⟩)
            have hwS : IntKind.i64.wrap (S0 + c.len) = S0 + c.len := by rw [IntKind.wrap_i64]; omega
            have HQS := Lib.hid (show qV p vs i (k + 1) = (qV p vs i k).set q (.int .i64 (S0 + c.len)) by rw [qV_succ hle, hS0, HQ.out])
            have m0 := fun V (h : Ext wI V) => (BI.out.ext h).c3
            have q0 := fun V (h : Ext wI V) => (show V.cell? ⟨bq, q, none⟩ = some (.int .i64 S0) by rw [(KI.out.ext h).cell q, HQ.out]; simp [qV_at (p := p) (v := vs) (k := i) (j := k) (by omega), hS0])
            have p0 := SlI.cell hcp EI.out
            have c8 := fun V (h : Ext wI V) => (show V.cell? ⟨b5, off5 + a * 8 + 6, none⟩ = some (.int .i64 c.len) by rw [← hxc]; exact (SlC.cells hcx (E6.out.trans (EI.out.trans h))).2.2.2.2.2.2.1)
            clear hE EK KK c0 b0 b1 b2 bf bl hca hpl hpa hpa2 hx hcx hcp hxc hle hS0 hsb hcl hq1
            by_cases hk1 : k = 0
            · have hk2 : ¬ (0 : Int) < (k : Int) := by omega
              have hk3 : ¬ 0 < k := by omega
              have c0 := c8
              clear hcy hy hk1
              go_upto_region 26 with (fail)
              refine wp_region_tame_cut (fun V => Ext wI V) (fun V V' => Ext V V') (by kernel_rfl) 214 rfl _ rfl (by decide +kernel) (by decide +kernel) (by decide +kernel) rfl (Ext.refl _).drew ?_
              simp only [List.dropLast]
              repeat (apply tame_q rfl; (intro ρ W hC hr hD; (obtain ⟨hrc, hrg, hrf, hrs⟩ := hr); (simp [go_sem] at hD); go_simp; first | exact ⟨⟨hC, Ext.refl _⟩, rfl⟩ | exact ⟨⟨hC, RS.refl _⟩, rfl⟩ | exact rfl); simp only [List.nil_append, List.cons_append])
              refine tame_end 214 rfl rfl (fun ρ V hC hr hF => ?_)
              obtain ⟨hrc', hrg, hrf, hrs⟩ := hr
              simp [go_sem] at hF
              apply frame_to
              · simp (maxSteps := 4000000) [go_sem, hF, hrs]
                exact rfl
              clear hF hrs hrc' hrg hrf
              have KV := Lib.hid (KI.out.ext hC)
              have EV := Lib.hid (EI.out.trans hC)
              have g0 := q0 V hC
              have g1 := KV.out.frozen
              have g2 := KV.out.lt
              clear hC m0 q0 c0
              go_wp2
              go_roundg (tn - (k + 1))
              case measure => omega
              case rel =>
                refine ⟨k + 1, by omega, by omega, by simp, ?_, EV.out.setCell (by dsimp only; have := HBQ.out; omega) _⟩
                have h := KV.out.set_ q (.int .i64 (S0 + c.len))
                rw [List.setIfInBounds_toArray] at h
                rw [HQS.out]
                exact h
            · obtain ⟨kk, hkk⟩ : ∃ kk, k = kk + 1 := ⟨k - 1, by omega⟩
              have HKK := Lib.hid hkk
              have hk2 : (0 : Int) < (k : Int) := by omega
              have hk3 : 0 < k := by omega
              have hkw : IntKind.i64.wrap ((k : Int) - 1) = (kk : Int) := by rw [show (k : Int) - 1 = (kk : Int) by omega]; exact wrap_nat (by omega)
              have hkk0 : (0 : Int) ≤ (kk : Int) := by omega
              have hkkz : (kk : Int) < (tn : Int) := by omega
              obtain ⟨bl5, off5', z, e5, hz, -, hcz⟩ := LX.out.at_ (show kk < tn by omega)
              injection e5 with e5
              injection e5 with e51 e52
              subst e51 e52
              have hzy : z < y := HUP.out _ z y kk hz (by rw [← HKK.out]; exact hy)
              have hzy2 : ¬ y ≤ z := by omega
              have z0 := SlI.cell hcz EI.out
              have c0 := c8
              clear hcy hy hk1 hkk hz hcz
              go_upto_region 26 with (fail)
              refine wp_region_tame_cut (fun V => Ext wI V) (fun V V' => Ext V V') (by kernel_rfl) 214 rfl _ rfl (by decide +kernel) (by decide +kernel) (by decide +kernel) rfl (Ext.refl _).drew ?_
              simp only [List.dropLast]
              repeat (apply tame_q rfl; (intro ρ W hC hr hD; (obtain ⟨hrc, hrg, hrf, hrs⟩ := hr); (simp [go_sem] at hD); go_simp; first | exact ⟨⟨hC, Ext.refl _⟩, rfl⟩ | exact ⟨⟨hC, RS.refl _⟩, rfl⟩ | exact rfl); simp only [List.nil_append, List.cons_append])
              refine tame_end 214 rfl rfl (fun ρ V hC hr hF => ?_)
              obtain ⟨hrc', hrg, hrf, hrs⟩ := hr
              simp [go_sem] at hF
              apply frame_to
              · simp (maxSteps := 4000000) [go_sem, hF, hrs]
                exact rfl
              clear hF hrs hrc' hrg hrf
              have KV := Lib.hid (KI.out.ext hC)
              have EV := Lib.hid (EI.out.trans hC)
              have g0 := q0 V hC
              have g1 := KV.out.frozen
              have g2 := KV.out.lt
              clear hC m0 q0 c0
              go_wp2
              go_roundg (tn - (k + 1))
              case measure => omega
              case rel =>
                refine ⟨k + 1, by omega, by omega, by simp, ?_, EV.out.setCell (by dsimp only; have := HBQ.out; omega) _⟩
                have h := KV.out.set_ q (.int .i64 (S0 + c.len))
                rw [List.setIfInBounds_toArray] at h
                rw [HQS.out]
                exact h
          · have HKE := Lib.hid (show k = tn by omega)
            have HQR := Lib.hid (show qV p vs (i + 1) 0 = qV p vs i k from qV_row (by rw [HLN2.out i, HLL.out i hin, HKE.out]; exact Nat.le_refl _))
            go_wp2
            go_roundg (n4 - (i + 1))
            case measure => omega
            case rel => exact ⟨i + 1, by omega, by omega, by simp, by rw [HQR.out]; exact KK.out, EK.out⟩
        -- END a
      · have HIE := Lib.hid (show i = n4 by omega)
        rw [HIE.out, HQF.out, HF.out] at KW
        have KZ := Lib.hid (show Blk wr bq 77 #[.int .i64 0, .int .i64 (f 1), .int .i64 (f 2), .int .i64 (f 3)] from KW.out)
        obtain ⟨k0, k1, k2, k3, kf, kl⟩ := KZ.out.c4
        clear KW
        go_wp2_with fail
        refine (stepped_any n4 f od _ _ hl3 HOM.out HFB.out (O6.out.ext EW.out)).mono ?_
        rintro e w8 ⟨rfl, hE⟩
        rw [HST.out]
        have E8 := Lib.hid ((E6.out.trans EW.out).trans hE)
        have B8 := Lib.hid (B6.out.ext (EW.out.trans hE))
        have K8 := Lib.hid (KZ.out.ext hE)
        have O8 := Lib.hid (O6.out.ext (EW.out.trans hE))
        clear hE k0 k1 k2 k3 kf kl E6 B6 KZ EW HIE S6 TS TR O6
        have HOL := Lib.hid (runsL_mem HOM.out).1
        go_wp2_with (at_builtin; refine wpList_copyI rfl (.tmp 164) (.tmp 165) rfl (base := w8.heap.size) (g := w8.heap.size) rfl rfl (Blk.at_ (by simp)) (Nat.le_refl _) (by simp) (O8.out.ext (Ext.al _ _)) (by have := HOL.out; omega) ?_)
        intro v1 W1 hown hext
        obtain ⟨go', cap, rfl, hg', hO⟩ := OwB.of hown.1 (by have := HOL.out; omega)
        have X1 := Lib.hid (show Ext w8 W1 from ((Ext.al w8 (.cells #[] 3)).trans hext))
        have N1 := Lib.hid hO
        have HG8 := Lib.hid (show w8.heap.size ≤ go' from hg')
        have hlc8 : n4 ≤ cap := by have h := hO.le; have := HOL.out; omega
        rw [HOL.out]
        have B9 := Lib.hid (B8.out.ext X1.out)
        clear hown hext hO hg'
        obtain ⟨iI, hiI, htI⟩ := mod_at (x := x2) hx20 (show 0 < n4 by omega)
        obtain ⟨kK, hkK, htK⟩ := mod_at (x := x3) hx30 (show 0 < n4 by omega)
        have hx2w : IntKind.i64.wrap x2 = x2 := by rw [IntKind.wrap_i64]; omega
        have hx3w : IntKind.i64.wrap x3 = x3 := by rw [IntKind.wrap_i64]; omega
        have hnn : (n4 : Int) ≠ 0 := by omega
        have hnn2 : ¬ n4 = 0 := by omega
        have m0 := fun V (h : Ext W1 V) => (B9.out.ext h).c3
        go_upto_region 33 with (fail)
        refine wp_region_tame (fun W => Ext W1 W) (fun W W' => Ext W W') (by kernel_rfl) 214 rfl (by decide +kernel) (Ext.refl _).drew ?_
        repeat (apply tame_q rfl; (intro ρ W hC hr hD; (obtain ⟨hrc, hrg, hrf, hrs⟩ := hr); (simp [go_sem] at hD); go_simp; first | exact ⟨⟨hC, Ext.refl _⟩, rfl⟩ | exact ⟨⟨hC, RS.refl _⟩, rfl⟩ | exact rfl); simp only [List.nil_append, List.cons_append])
        refine tame_end 214 rfl rfl (fun ρ wz hC hr hF => ?_)
        obtain ⟨hrc', hrg, hrf, hrs⟩ := hr
        simp [go_sem] at hF
        apply frame_to
        · simp (maxSteps := 4000000) [go_sem, hF, hrs]
          exact rfl
        clear hF hrs hrc' hrg hrf m0
        have X2 := Lib.hid (X1.out.trans hC)
        have N2 := Lib.hid (N1.out.ext hC)
        clear hC X1 N1 B9
        have hiz : (iI : Int) < (n4 : Int) := by omega
        have hkz : (kK : Int) < (n4 : Int) := by omega
        have hi0 : (0 : Int) ≤ (iI : Int) := by omega
        have hk0 : (0 : Int) ≤ (kK : Int) := by omega
        obtain ⟨bo, offo, yi, rfl, hyi, -, hci⟩ := O8.out.at_ hiI
        obtain ⟨bo', offo', yk, e2, hyk, -, hck⟩ := O8.out.at_ hkK
        injection e2 with e2
        injection e2 with e21 e22
        subst e21 e22
        have HYI := Lib.hid hyi; have HYK := Lib.hid hyk
        have HGZ := Lib.hid (show w8.heap.size ≤ go' from HG8.out)
        have d0 := fun V (h : wz.grownBy V (some go')) => SlI.cell hci (ext_grown X2.out h HGZ.out)
        have d1 := fun V (h : wz.grownBy V (some go')) => SlI.cell hck (ext_grown X2.out h HGZ.out)
        clear hyi hyk hci hck hx2w hx3w hnn hnn2 htI htK
        go_upto_region 34 with (fail)
        refine wp_region_tameN_cut (fun V => wz.grownBy V (some go')) (fun A B => OwB go' cap (od.set iI yk) A → OwB go' cap (od.set iI yk) B) (fun V => OwB go' cap od V) 13 (by kernel_rfl) 214 rfl _ rfl (by decide +kernel) (by decide +kernel) (by decide +kernel) rfl ⟨rfl, rfl, rfl, Nat.le_refl _, fun _ _ _ => rfl⟩ (N2.out.ext (Ext.refl _).drew) ?_
        simp only [List.dropLast]
        repeat (apply tameN_q rfl; (intro ρ W hC hN hr hD; (obtain ⟨hrc, hrg, hrf, hrs⟩ := hr); (simp [go_sem] at hD); go_simp; first | exact ⟨⟨hC, fun h => h, fun _ h => h⟩, rfl⟩ | exact ⟨hC, fun h => h, fun _ h => h⟩ | exact ⟨⟨hC, ⟨fun h => h, fun h => h⟩, fun _ h => h⟩, rfl⟩ | exact ⟨hC, ⟨fun h => h, fun h => h⟩, fun _ h => h⟩ | exact rfl); simp only [List.nil_append, List.cons_append])
        apply tameN_n (fun _ V => OwB go' cap (od.set iI yk) V) (fun _ A B _ hR h => hR h)
        · intro ρ V hC hN hr hD
          obtain ⟨hrc, hrg, hrf, hrs⟩ := hr
          simp [go_sem] at hD
          have h0 := hN rfl
          obtain ⟨t0, t1, t2⟩ := h0.cell HYI.out
          have H4 := Lib.hid (h0.set (i := iI) yk); have HC' := Lib.hid hC
          clear h0 hN hC
          go_simp
          exact ⟨⟨grown_set HC'.out (p := ⟨go', iI, none⟩) (.inl rfl) _, fun _ => H4.out, fun h => by cases h⟩, H4.out⟩
        simp only [List.nil_append, List.cons_append]
        repeat (apply tameN_q rfl; (intro ρ W hC hN hr hD; (obtain ⟨hrc, hrg, hrf, hrs⟩ := hr); (simp [go_sem] at hD); go_simp; first | exact ⟨⟨hC, fun h => h, fun _ h => h⟩, rfl⟩ | exact ⟨hC, fun h => h, fun _ h => h⟩ | exact ⟨⟨hC, ⟨fun h => h, fun h => h⟩, fun _ h => h⟩, rfl⟩ | exact ⟨hC, ⟨fun h => h, fun h => h⟩, fun _ h => h⟩ | exact rfl); simp only [List.nil_append, List.cons_append])
        refine tameN_end_putR rfl rfl (fun ρ V hC hr hF => ?_)
        simp [go_sem] at hF
        obtain ⟨f0, f1, f2, f3, f4, f5, f6, f7, f8, f9, f10, f11, f12, fS, f14⟩ := hF
        simp only [putF, f0, f1, f2, f3, f4, f5, f6, f7, f8, f9, f10, f11, f12, f14, List.set_cons_succ, List.set_cons_zero]
        have N3 := Lib.hid fS
        have X3 := Lib.hid (ext_grown X2.out hC HGZ.out)
        clear f0 f1 f2 f3 f4 f5 f6 f7 f8 f9 f10 f11 f12 fS f14 hr hC d0 d1 X2 N2
        obtain ⟨z, hz⟩ : ∃ z, (od.set iI yk)[kK]? = some z := ⟨_, List.getElem?_eq_getElem (by rw [List.length_set]; have := HOL.out; omega)⟩
        obtain ⟨t0, t1, t2⟩ := N3.out.cell hz
        have HTM := Lib.hid (turn_mem HOM.out hiI hkK)
        have HTL := Lib.hid (runsL_mem HTM.out).1
        have N4 := Lib.hid (show OwB go' cap (turnO od iI kK) (V.setCell ⟨go', kK, none⟩ (.int .i64 yi)) by
          have h := N3.out.set (i := kK) yi
          unfold turnO
          rw [HYK.out, HYI.out]
          exact h)
        have X4 := Lib.hid (show Ext w8 (V.setCell ⟨go', kK, none⟩ (.int .i64 yi)) from X3.out.setCell (by dsimp only; exact HGZ.out) _)
        clear hz
        go_upto_region 35 with (fail)
        clear t0 t1 t2
        obtain ⟨wt, hwt⟩ : ∃ wt, wt = V.setCell ⟨go', kK, none⟩ (.int .i64 yi) := ⟨_, rfl⟩
        rw [← hwt]
        rw [← hwt] at N4 X4
        have S4' := Lib.hid (show SlI wt (.slice (some ⟨go', 0, none⟩) n4 cap) (turnO od iI kK) by have h := N4.out.sl; rwa [HTL.out] at h)
        have O9 := Lib.hid (O8.out.ext X4.out)
        have E9 := Lib.hid (E8.out.trans X4.out)
        obtain ⟨k0, k1, k2, k3, kf, kl⟩ := (K8.out.ext X4.out).c4
        obtain ⟨r1, r2⟩ := HRB.out (turnO od iI kK) HTM.out
        have HR2 := Lib.hid r2
        clear hwt N4 X4 N3 X3 K8 O8 E8 B8 r2
        go_wp2_with fail
        refine (stepped_any n4 f (turnO od iI kK) _ _ hl3 HTM.out HFB.out S4'.out).mono ?_
        rintro e w9 ⟨rfl, hE⟩
        have S9 := Lib.hid (S4'.out.ext hE)
        have O10 := Lib.hid (O9.out.ext hE)
        have E10 := Lib.hid (E9.out.trans hE)
        clear hE k0 k1 k2 k3 kf kl S4' O9 E9
        obtain ⟨s2, hs2⟩ : ∃ s2, stepL f (turnO od iI kK) = s2 := ⟨_, rfl⟩
        rw [hs2] at r1 HR2 ⊢
        clear hs2
        by_cases hgt : st < s2
        · go_wp2
          go_ret
          exact ⟨rfl, E10.out⟩
        · have HBF := Lib.hid (HR2.out (by omega))
          have hge : ¬ s2 < st := by omega
          go_wp2_with fail
          refine (before_any (turnO od iI kK) od _ _ _ (by have := HTL.out; have := HOL.out; omega) S9.out O10.out).mono ?_
          rintro e wf ⟨rfl, hE⟩
          rw [HBF.out]
          have EF := Lib.hid (E10.out.trans hE)
          clear hE
          go_wp2
          go_ret
          exact ⟨rfl, EF.out⟩
  · go_wp2
    go_ret
    exact ⟨rfl, E4.out⟩
end Go.Proofs.YtkpengeaolcjhaaGreatDoor
