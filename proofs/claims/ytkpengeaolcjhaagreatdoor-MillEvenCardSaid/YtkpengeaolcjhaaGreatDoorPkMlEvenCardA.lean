/- What MillEven says: plain; bales that are made alike. -/
import Derived.Test.YtkpengeaolcjhaaGreatDoorPkMlSwapCardA
import Derived.Test.YtkpengeaolcjhaaGreatDoorPkMlBestCardP
import Derived.Test.YtkpengeaolcjhaaGreatDoorPkMlBestCardS
import Derived.Test.YtkpengeaolcjhaaGreatDoorPkMlBestCardX
import Derived.Test.YtkpengeaolcjhaaGreatDoorPkMlBestCardY
namespace Go.Proofs.YtkpengeaolcjhaaGreatDoor
open Go.RowKit Go.Shelf Go.Lib
set_option maxRecDepth 100000
set_option linter.unusedSimpArgs false

/-- The bale, as long and as strong as is told. -/
def alC (a b : Int) (x : Cot) : Cot := ⟨x.b, a, b⟩
def alM (m : Mll) (a b : Int) : Mll := ⟨m.lots, m.size, m.cots.map (alC a b)⟩
theorem alM_ids (m : Mll) (a b : Int) : idsL (alM m a b) = idsL m := by
  unfold idsL alM
  simp only [List.map_map]
  rfl
theorem alM_fit (m : Mll) (a b : Int) : fitL (alM m a b) = fitL m := by
  unfold fitL alM
  simp only [List.map_map]
  rfl
theorem alM_plans (m : Mll) (a b : Int) : plansL (alM m a b) = plansL m := by
  unfold plansL
  rw [alM_fit]
  rfl
theorem alM_check {m : Mll} {a b : Int} (hc : checkM m = true) (ha : 1 ≤ a ∧ a ≤ 60) (hb : 1 ≤ b ∧ b ≤ 200) : checkM (alM m a b) = true := by
  unfold checkM at hc ⊢
  simp only [Bool.and_eq_true] at hc ⊢
  obtain ⟨⟨⟨h0, h1⟩, h2⟩, h3⟩ := hc
  refine ⟨⟨⟨?_, ?_⟩, ?_⟩, ?_⟩
  · unfold ck0 at h0 ⊢
    simpa [alM] using h0
  · unfold ck1 at h1 ⊢
    unfold alM
    rw [List.any_map]
    exact h1
  · unfold ck2 at h2 ⊢
    rw [alM_ids]
    exact h2
  · unfold ck3
    simp only [Bool.not_eq_true', List.any_eq_false, Bool.not_eq_true]
    intro y hy
    obtain ⟨x, -, rfl⟩ := List.mem_map.1 hy
    unfold badC alC
    simp only
    rw [inB_iff.2 ha, inB_iff.2 hb]
    rfl
/-- **Bales that are alike make even lots.** -/
theorem alM_even {m : Mll} {a b : Int} {p : List Int} (hc : checkM (alM m a b) = true) (hp : p ∈ plansL m) : bestE (alM m a b) = 0 ∧ (evenU (alM m a b)).1 = 0 ∧ (evenU (alM m a b)).2 = 0 := by
  cases hb : bestP (alM m a b) with
  | none =>
    exfalso
    have h := best_none.1 hb
    rw [alM_plans] at h
    rw [h] at hp
    simp at hp
  | some q =>
    obtain ⟨h1, -, h3⟩ := be_ok hc hb
    rw [unev_alike (m := alM m a b) (a := a) (b := b) (fun x hx => by obtain ⟨y, -, rfl⟩ := List.mem_map.1 hx; rfl) (fun x hx => by obtain ⟨y, -, rfl⟩ := List.mem_map.1 hx; rfl)] at h3
    exact ⟨h1, by rw [h3], by rw [h3]⟩
/-- The first bales made alike. -/
def alTo (a b : Int) (l : List Cot) (k : Nat) : List Cot := (l.take k).map (alC a b) ++ l.drop k
theorem alTo_zero (a b : Int) (l : List Cot) : alTo a b l 0 = l := by simp [alTo]
theorem alTo_all {a b : Int} {l : List Cot} {k : Nat} (h : l.length ≤ k) : alTo a b l k = l.map (alC a b) := by
  unfold alTo
  rw [List.take_of_length_le h, List.drop_eq_nil_of_le h, List.append_nil]
theorem alTo_at {a b : Int} {l : List Cot} {k : Nat} {x : Cot} (h : l[k]? = some x) : (alTo a b l k)[k]? = some x := by
  have hk := (List.getElem?_eq_some_iff.1 h).1
  unfold alTo
  rw [List.getElem?_append_right (by simp; omega), List.length_map, List.length_take, Nat.min_eq_left (by omega), Nat.sub_self, List.getElem?_drop, Nat.add_zero]
  exact h
theorem alTo_succ {a b : Int} {l : List Cot} {k : Nat} {x : Cot} (h : l[k]? = some x) : alTo a b l (k + 1) = (alTo a b l k).set k (alC a b x) := by
  have hk := (List.getElem?_eq_some_iff.1 h).1
  unfold alTo
  rw [List.set_append_right k _ (by simp; omega), List.length_map, List.length_take, Nat.min_eq_left (by omega), Nat.sub_self, drop_at h, List.set_cons_zero, List.take_add_one, h]
  simp
/-- The first lots have changed their names. -/
def turnTo (lots : Int) (p : List Int) (k : Nat) : List Int := turnP lots (p.take k) ++ p.drop k
theorem turnTo_zero (lots : Int) (p : List Int) : turnTo lots p 0 = p := by simp [turnTo, turnP]
theorem turnTo_all {lots : Int} {p : List Int} {k : Nat} (h : p.length ≤ k) : turnTo lots p k = turnP lots p := by
  unfold turnTo
  rw [List.take_of_length_le h, List.drop_eq_nil_of_le h, List.append_nil]
theorem turnTo_at {lots : Int} {p : List Int} {k : Nat} {x : Int} (h : p[k]? = some x) : (turnTo lots p k)[k]? = some x := by
  have hk := (List.getElem?_eq_some_iff.1 h).1
  unfold turnTo turnP
  rw [List.getElem?_append_right (by simp; omega), List.length_map, List.length_take, Nat.min_eq_left (by omega), Nat.sub_self, List.getElem?_drop, Nat.add_zero]
  exact h
theorem turnTo_succ {lots : Int} {p : List Int} {k : Nat} {x : Int} (h : p[k]? = some x) : turnTo lots p (k + 1) = (turnTo lots p k).set k (if x = 0 then 0 else lots + 1 - x) := by
  have hk := (List.getElem?_eq_some_iff.1 h).1
  unfold turnTo turnP
  rw [List.set_append_right k _ (by simp; omega), List.length_map, List.length_take, Nat.min_eq_left (by omega), Nat.sub_self, drop_at h, List.set_cons_zero, List.take_add_one, h]
  simp
theorem turnTo_zeroAt {lots : Int} {p : List Int} {k : Nat} (h : p[k]? = some 0) : turnTo lots p (k + 1) = turnTo lots p k := by
  rw [turnTo_succ h, if_pos rfl]
  refine List.ext_getElem? fun j => ?_
  rw [List.getElem?_set]
  split
  · rename_i e
    subst e
    rw [turnTo_at h, if_pos (List.getElem?_eq_some_iff.1 (turnTo_at h)).1]
  · rfl
theorem turnTo_step {lots : Int} {p : List Int} {k : Nat} {x : Int} (h : p[k]? = some x) (hx : x ≠ 0) : turnTo lots p (k + 1) = (turnTo lots p k).set k (lots + 1 - x) := by rw [turnTo_succ h, if_neg hx]
/-! The row. -/
theorem flat_setC1 {j : Nat} {a : Value} {x y : Rc} (hj : j < 8) (hy : encC y = (encC x).set j a) : ∀ (l : List Rc) (i : Nat), l[i]? = some x → (l.flatMap encC).set (i * 8 + j) a = (l.set i y).flatMap encC
  | [], i, h => by simp at h
  | z :: l, 0, h => by
    simp at h
    subst h
    rw [List.set_cons_zero, List.flatMap_cons, List.flatMap_cons, hy, Nat.zero_mul, Nat.zero_add, List.set_append_left _ _ (by rw [encC_len]; exact hj)]
  | z :: l, i + 1, h => by
    have ih := flat_setC1 hj hy l i (by simpa using h)
    rw [List.set_cons_succ, List.flatMap_cons, List.flatMap_cons, ← ih]
    rw [show (i + 1) * 8 + j = (encC z).length + (i * 8 + j) by rw [encC_len]; omega]
    simp only [List.set_append_right _ _ (Nat.le_add_right _ _), Nat.add_sub_cancel_left]
theorem own_putC1 {w : World} {base g n cap i j : Nat} {m : List Rc} {a : Value} {x y : Rc} (h : Own encC 63 8 w base (.slice (some ⟨g, 0, none⟩) n cap) m) (hx : m[i]? = some x) (hj : j < 8) (hy : encC y = (encC x).set j a) :
    Own encC 63 8 (w.setCell ⟨g, i * 8 + j, none⟩ a) base (.slice (some ⟨g, 0, none⟩) n cap) (m.set i y) := by
  unfold Own at *
  rw [List.length_set, ← flat_setC1 hj hy m i hx]
  obtain rfl : n = m.length := by
    rcases h.2 with ⟨_, e⟩ | ⟨_, _, _, e, _⟩
    · have := (List.getElem?_eq_some_iff.1 hx).1; omega
    · injection e
  exact own_cellset h
/-- A cotton as long, as strong, as is told. -/
def lenR (x : Rc) (a : Int) : Rc := ⟨⟨x.c.b, a, x.c.str⟩, x.da, x.dn, x.dc, x.wa, x.wn, x.wc⟩
def strR (x : Rc) (a : Int) : Rc := ⟨⟨x.c.b, x.c.len, a⟩, x.da, x.dn, x.dc, x.wa, x.wn, x.wc⟩
theorem TwinL.set_ {base g n cap i : Nat} {cs : List Cot} {L : List Rc} {x y : Rc} {W W' : World} (h : TwinL base cs (.slice (some ⟨g, 0, none⟩) n cap) L W) (hx : L[i]? = some x) (ho : Own encC 63 8 W' base (.slice (some ⟨g, 0, none⟩) n cap) (L.set i y)) (hg : W.grownBy W' (some g)) (hy : ∀ V, OwnR base x V → OwnR base y V) : TwinL base (cs.set i y.c) (.slice (some ⟨g, 0, none⟩) n cap) (L.set i y) W' := by
  refine ⟨ho, fun r hr => ?_, by rw [List.map_set, h.map]⟩
  have hof : OffX 63 W W' := OffX.grown (e := 63) h.own hg
  rcases List.mem_or_eq_of_mem_set hr with h1 | rfl
  · exact (h.lists r h1).off hof
  · exact hy _ ((h.lists x (List.mem_of_getElem? hx)).off hof)
theorem TwinL.putStr {base g n cap i : Nat} {cs : List Cot} {L : List Rc} {x : Rc} {W : World} (h : TwinL base cs (.slice (some ⟨g, 0, none⟩) n cap) L W) (hx : L[i]? = some x) (a : Int) : TwinL base (cs.set i (strR x a).c) (.slice (some ⟨g, 0, none⟩) n cap) (L.set i (strR x a)) (W.setCell ⟨g, i * 8 + 7, none⟩ (.int .i64 a)) :=
  h.set_ hx (own_putC1 h.own hx (by decide) rfl) (grown_set (World.grownBy.refl _ _) (p := ⟨g, i * 8 + 7, none⟩) (.inl rfl) _) fun _ k => k
end Go.Proofs.YtkpengeaolcjhaaGreatDoor
/- The law MillEven: the walk. -/
namespace Go.Proofs.YtkpengeaolcjhaaGreatDoor
open Go.RowKit Go.Shelf Go.Lib
set_option maxRecDepth 100000
set_option linter.unusedSimpArgs false

theorem max2_int (ts : Array TypeId) (ty : TypeId) (n a : Int) (W : World) : (Builtin.max_ ts ty #[.int .i64 n, .int .i64 a]).run Tryz.prog W = .ok (.int .i64 (max n a)) W := by
  have e : ∀ x y : Int, (if y > x then y else x) = max x y := fun x y => by split <;> omega
  have h : (Builtin.max_ ts ty #[.int .i64 n, .int .i64 a]).run Tryz.prog W = .ok (.int .i64 (if a > n then a else n)) W := by
    simp [Builtin.max_, Builtin.max2]
  rw [h, e]
section
variable {P : Program} {C : World → Prop} {R : World → World → Prop} {a0 : Act} {N : World → Prop} {l0 : List Oper} {s : Nat} {ds : List (Option Tmp)} {Q : Act → World → Prop} {n : Nat} {F : Facts}
theorem tameN_end_put (hds : F.map (·.1) = ds) (hn : n = F.length) (h : ∀ ρ W, C W → Rd a0 ds ρ → allF F ρ W → Q { tmps := (putF ρ F a0.tmps.toList).toArray, defers := a0.defers } W) : wpTameN P C R N l0 s ds a0 Q n [] F :=
  tame_end_put (P := P) (R := R) hds hn h
end
set_option maxHeartbeats 16000000 in
theorem millEven_of (hA : AliveM) (lots size : Int) (by' : List Int) (l : List Rc) (sv bv : Value) (w : World) (hT : TabM w) (hs : MlC w sv l) (hbs : Sl encU8 1 w bv by') (hbb : ∀ x ∈ by', 0 ≤ x ∧ x ≤ 255) :
    Calls Tryz.prog 10 #[valM lots size sv, bv] w fun e w' => e = .returned (.bool true) ∧ Ext w w' := by
  have HBS := Lib.hid hbs; have HBB := Lib.hid hbb
  clear hbs hbb
  have HS := Lib.hid hs; have HT := Lib.hid hT
  obtain ⟨A, n, c, rfl, hn, hlc, hcm⟩ := hs.1.form
  have HL := Lib.hid (show l.length = n from hn.out.symm)
  clear hs hT hn
  go_enter Tryz.func10, Tryz.ntmps10
  go_wp2_with fail
  have E0 := Lib.hid (Ext.al w (.cells #[.int .i64 lots, .int .i64 size, .slice A n c] 24))
  have B0 := Lib.hid (Blk.new w 24 #[.int .i64 lots, .int .i64 size, .slice A n c])
  refine (hA _ (HT.out.ext E0.out)).mono ?_
  rintro e w1 ⟨rfl, hE⟩
  have E1 := Lib.hid (E0.out.trans hE)
  have B1 := Lib.hid (B0.out.ext hE)
  clear hE E0 B0 hA
  obtain ⟨b0, b1, b2, bf, bl⟩ := B1.out.c3
  go_wp2_with fail
  refine (readyM_any lots size l _ _ (HS.out.ext E1.out)).mono ?_
  rintro e w2 ⟨rfl, hE⟩
  have E2 := Lib.hid (E1.out.trans hE)
  have B2 := Lib.hid (B1.out.ext hE)
  clear hE E1 B1 b0 b1 b2 bf bl
  obtain ⟨rd, hrd⟩ : ∃ rd, (!greatM l && checkM (mOf lots size l)) = rd := ⟨_, rfl⟩
  rw [hrd]
  cases rd with
  | false =>
    clear hrd
    go_wp2
    go_ret
    exact ⟨rfl, E2.out⟩
  | true =>
  rw [Bool.and_eq_true] at hrd
  have HG := Lib.hid (show greatM l = false by have h := hrd.1; revert h; cases greatM l <;> simp)
  have HC := Lib.hid hrd.2
  have HMO := Lib.hid (mok_of hrd.2)
  have HN7 := Lib.hid (show n ≤ 7 by have h := HMO.out.n7; simp at h; have := HL.out; omega)
  have HLN := Lib.hid (show l.length ≤ 900 by have := HN7.out; have := HL.out; omega)
  clear hrd
  obtain ⟨b0, b1, b2, bf, bl⟩ := B2.out.c3
  go_wp2_with fail
  refine (fitted_any lots size l _ _ (HT.out.ext E2.out) (HS.out.ext E2.out) HC.out).mono ?_
  rintro e w3 ⟨⟨fv, rfl, hfv⟩, hE⟩
  have E3 := Lib.hid (E2.out.trans hE)
  have B3 := Lib.hid (B2.out.ext hE)
  have F3 := Lib.hid (show SlBo w3 fv (fitL (mOf lots size l)) from hfv.sl (fun _ => rfl))
  clear hE hfv E2 B2 b0 b1 b2 bf bl
  obtain ⟨b0, b1, b2, bf, bl⟩ := B3.out.c3
  go_wp2_with fail
  refine (chosenM_any lots size l by' _ _ _ _ (HS.out.ext E3.out) HC.out F3.out (HBS.out.ext E3.out) HBB.out).mono ?_
  rintro e w4 ⟨hch, hE⟩
  have E4 := Lib.hid (E3.out.trans hE)
  have B4 := Lib.hid (B3.out.ext hE)
  clear hE E3 B3 F3 b0 b1 b2 bf bl
  rcases hch with ⟨v, p, rfl, hsl, hok⟩ | ⟨rfl, hno⟩
  · have HP := Lib.hid (plan_of_ok HMO.out hok)
    have HOK := Lib.hid hok
    have S4 := Lib.hid hsl
    have hpn := (plans_mem HMO.out HP.out).1
    have HRA := Lib.hid (plans_mem HMO.out HP.out).2.1
    have HPL0 := Lib.hid (show p.length = l.length by simpa using hpn)
    have HNZ := Lib.hid (plan_some HMO.out HP.out)
    clear hok hsl hpn
    obtain ⟨A2, n2, c2, rfl, hn2, hlc2, hcm2⟩ := S4.out.form
    obtain rfl : n2 = n := by have := hn2.out; have := HPL0.out; have := HL.out; omega
    have HPL := Lib.hid (show p.length = n2 from hn2.out.symm)
    have hn0 : 0 < n2 := by have := HNZ.out; have := HPL.out; omega
    have hn7 : n2 ≤ 7 := HN7.out
    obtain ⟨hl1, hl3⟩ : 1 ≤ lots ∧ lots ≤ 3 := ⟨HMO.out.l1, HMO.out.l3⟩
    clear hn2
    have HJ := Lib.hid (judgeE_ok HC.out HOK.out)
    have HUP := Lib.hid (judU_ok HJ.out)
    obtain ⟨u1, hu1⟩ : ∃ u1, (unev (mOf lots size l) p).1 = u1 := ⟨_, rfl⟩
    obtain ⟨u2, hu2⟩ : ∃ u2, (unev (mOf lots size l) p).2 = u2 := ⟨_, rfl⟩
    obtain ⟨L1, hL1⟩ : ∃ L1, lensL (mOf lots size l) = L1 := ⟨_, rfl⟩
    obtain ⟨L2, hL2⟩ : ∃ L2, strsL (mOf lots size l) = L2 := ⟨_, rfl⟩
    have HF1 := Lib.hid (show prS p L1 n2 0 = u1 by
      rw [← hL1, ← hu1, ← HPL.out]
      exact pr_even (lots := lots) (by simp [lensL, HPL0.out]) HRA.out)
    have HF2 := Lib.hid (show prS p L2 n2 0 = u2 by
      rw [← hL2, ← hu2, ← HPL.out]
      exact pr_even (lots := lots) (by simp [strsL, HPL0.out]) HRA.out)
    have HV1 := Lib.hid (show ∀ (k : Nat) (x : Rc), l[k]? = some x → L1[k]? = some x.c.len from fun k x h => by rw [← hL1]; simp [lensL, h])
    have HV2 := Lib.hid (show ∀ (k : Nat) (x : Rc), l[k]? = some x → L2[k]? = some x.c.str from fun k x h => by rw [← hL2]; simp [strsL, h])
    have HBD1 := Lib.hid (show ∀ i k, 0 ≤ prS p L1 i k ∧ prS p L1 i k ≤ 999 from fun i k => prS_bd (fun x hx => by
      rw [← hL1] at hx
      unfold lensL at hx
      obtain ⟨y, hy, rfl⟩ := List.mem_map.1 hx
      have := HMO.out.len y hy; omega) i k)
    have HBD2 := Lib.hid (show ∀ i k, 0 ≤ prS p L2 i k ∧ prS p L2 i k ≤ 999 from fun i k => prS_bd (fun x hx => by
      rw [← hL2] at hx
      unfold strsL at hx
      obtain ⟨y, hy, rfl⟩ := List.mem_map.1 hx
      have := HMO.out.str y hy; omega) i k)
    have HU1 := Lib.hid hu1; have HU2 := Lib.hid hu2
    clear hL1 hL2
    obtain ⟨b0, b1, b2, bf, bl⟩ := B4.out.c3
    go_wp2_with fail
    refine (judgeM_any lots size l p _ _ _ (HT.out.ext E4.out) (HS.out.ext E4.out) S4.out (by have := HLN.out; omega)).mono ?_
    rintro e w5 ⟨rfl, hE⟩
    rw [HUP.out, HJ.out, hu1, hu2]
    have E5 := Lib.hid (E4.out.trans hE)
    have B5 := Lib.hid (B4.out.ext hE)
    have S5 := Lib.hid (S4.out.ext hE)
    clear hE E4 B4 S4 b0 b1 b2 bf bl hu1 hu2
    obtain ⟨b0, b1, b2, bf, bl⟩ := B5.out.c3
    go_wp2
    clear b0 b1 b2 bf bl
    go_loopg [13, 14, 66] n2 (fun gg s13 s14 s66 wr => ∃ i : Nat, i ≤ n2 ∧ n2 - i ≤ gg ∧ s13 = .int .i64 (prS p L1 i 0) ∧ s14 = .int .i64 (prS p L2 i 0) ∧ s66 = .int .i64 (i : Int) ∧ Aside (Ext w5 wr))
    case atStart => exact ⟨0, by omega, by omega, rfl, rfl, by simp, Ext.refl _⟩
    case round =>
      obtain ⟨i, hi, hgi, rfl, rfl, rfl, EW⟩ := hrel
      by_cases hin : i < n2
      · -- BLOCK a
        have hiz : (i : Int) < (n2 : Int) := by omega
        have hi0 : (0 : Int) ≤ (i : Int) := by omega
        obtain ⟨bi, offi, x, rfl, hx, hb, hcell⟩ := HS.out.1.at_ hin
        obtain ⟨c0, c1, c2', c3, c4, c5, c6, c7⟩ := SlC.cells hcell (E5.out.trans EW.out)
        have HX := Lib.hid hx
        clear hx hcell
        go_upto_region 15 with (fail)
        clear c0 c1 c2' c3 c4 c5 c6 c7
        obtain ⟨wx, hwx⟩ : ∃ wx, wx = wr.alloc (.cells #[.int .i64 x.c.b.id, .int .i64 x.c.b.layers, .int .i64 x.c.b.dry.lo, .int .i64 x.c.b.dry.hi, .slice x.da x.dn x.dc, .slice x.wa x.wn x.wc, .int .i64 x.c.len, .int .i64 x.c.str] 63) := ⟨_, rfl⟩
        rw [← hwx]
        obtain ⟨bx, hbx⟩ : ∃ bx, bx = wr.heap.size := ⟨_, rfl⟩
        rw [← hbx]
        have BX := Lib.hid (show Blk wx bx 63 #[.int .i64 x.c.b.id, .int .i64 x.c.b.layers, .int .i64 x.c.b.dry.lo, .int .i64 x.c.b.dry.hi, .slice x.da x.dn x.dc, .slice x.wa x.wn x.wc, .int .i64 x.c.len, .int .i64 x.c.str] from hbx ▸ hwx ▸ Blk.new _ _ _)
        have EX := Lib.hid (show Ext w5 wx from hwx ▸ EW.out.alloc _)
        clear hwx hbx EW
        obtain ⟨b0, b1, b2, bf, bl⟩ := (B5.out.ext EX.out).c3
        go_wp2
        clear b0 b1 b2 bf bl
        go_loopg [13, 14, 74] n2 (fun gg s13 s14 s74 wr => ∃ k : Nat, k ≤ n2 ∧ n2 - k ≤ gg ∧ s13 = .int .i64 (prS p L1 i k) ∧ s14 = .int .i64 (prS p L2 i k) ∧ s74 = .int .i64 (k : Int) ∧ Aside (Ext wx wr))
        case atStart => exact ⟨0, by omega, by omega, rfl, rfl, by simp, Ext.refl _⟩
        case round =>
          obtain ⟨k, hk, hgk, rfl, rfl, rfl, EK⟩ := hrel
          by_cases hkn : k < n2
          · have hkz : (k : Int) < (n2 : Int) := by omega
            have hk0 : (0 : Int) ≤ (k : Int) := by omega
            obtain ⟨bk, offk, y, e2, hy, -, hcy⟩ := HS.out.1.at_ hkn
            injection e2 with e2
            injection e2 with e21 e22
            subst e21 e22
            obtain ⟨c0, c1, c2', c3, c4, c5, c6, c7⟩ := SlC.cells hcy ((E5.out.trans EX.out).trans EK.out)
            go_upto_region 18 with (fail)
            clear c0 c1 c2' c3 c4 c5 c6 c7 hcy
            obtain ⟨wy, hwy⟩ : ∃ wy, wy = wr.alloc (.cells #[.int .i64 y.c.b.id, .int .i64 y.c.b.layers, .int .i64 y.c.b.dry.lo, .int .i64 y.c.b.dry.hi, .slice y.da y.dn y.dc, .slice y.wa y.wn y.wc, .int .i64 y.c.len, .int .i64 y.c.str] 63) := ⟨_, rfl⟩
            rw [← hwy]
            obtain ⟨bY, hbY⟩ : ∃ bY, bY = wr.heap.size := ⟨_, rfl⟩
            rw [← hbY]
            have BY := Lib.hid (show Blk wy bY 63 #[.int .i64 y.c.b.id, .int .i64 y.c.b.layers, .int .i64 y.c.b.dry.lo, .int .i64 y.c.b.dry.hi, .slice y.da y.dn y.dc, .slice y.wa y.wn y.wc, .int .i64 y.c.len, .int .i64 y.c.str] from hbY ▸ hwy ▸ Blk.new _ _ _)
            have EY := Lib.hid (show Ext wx wy from hwy ▸ EK.out.alloc _)
            clear hwy hbY EK
            obtain ⟨bp, offp, pi, rfl, hpi, -, hci⟩ := S5.out.at_ hin
            obtain ⟨bp2, offp2, pk, e3, hpk, -, hck⟩ := S5.out.at_ hkn
            injection e3 with e3
            injection e3 with e31 e32
            subst e31 e32
            have d0 := fun W (h : Ext wy W) => SlI.cell hci ((EX.out.trans EY.out).trans h)
            have d1 := fun W (h : Ext wy W) => SlI.cell hck ((EX.out.trans EY.out).trans h)
            have HP1 := Lib.hid (show prS p L1 i (k + 1) = if pi ≠ 0 ∧ pi = pk then max (prS p L1 i k) (x.c.len - y.c.len) else prS p L1 i k by
              have h := prS_cell p L1 i k
              rw [hpi, hpk, HV1.out i x HX.out, HV1.out k y hy] at h
              exact h)
            have HP2 := Lib.hid (show prS p L2 i (k + 1) = if pi ≠ 0 ∧ pi = pk then max (prS p L2 i k) (x.c.str - y.c.str) else prS p L2 i k by
              have h := prS_cell p L2 i k
              rw [hpi, hpk, HV2.out i x HX.out, HV2.out k y hy] at h
              exact h)
            have hz1 := HMO.out.len x.c (List.mem_map.2 ⟨x, List.mem_of_getElem? HX.out, rfl⟩)
            have hz2 := HMO.out.len y.c (List.mem_map.2 ⟨y, List.mem_of_getElem? hy, rfl⟩)
            have hz3 := HMO.out.str x.c (List.mem_map.2 ⟨x, List.mem_of_getElem? HX.out, rfl⟩)
            have hz4 := HMO.out.str y.c (List.mem_map.2 ⟨y, List.mem_of_getElem? hy, rfl⟩)
            have hw1 : IntKind.i64.wrap (x.c.len - y.c.len) = x.c.len - y.c.len := by rw [IntKind.wrap_i64]; omega
            have hw2 : IntKind.i64.wrap (x.c.str - y.c.str) = x.c.str - y.c.str := by rw [IntKind.wrap_i64]; omega
            clear hz1 hz2 hz3 hz4 hpi hpk hci hck hy
            by_cases hp0 : pi = 0
            · have HQ1 := Lib.hid (show prS p L1 i (k + 1) = prS p L1 i k by rw [HP1.out, if_neg (by simp [hp0])])
              have HQ2 := Lib.hid (show prS p L2 i (k + 1) = prS p L2 i k by rw [HP2.out, if_neg (by simp [hp0])])
              subst hp0
              refine wp_region_tame (fun W => Ext wy W) (fun W W' => Ext W W') (by kernel_rfl) 196 rfl (by decide +kernel) (Ext.refl _).drew ?_
              repeat (apply tame_q rfl; (intro ρ W hC hr hD; (obtain ⟨hrc, hrg, hrf, hrs⟩ := hr); (simp [go_sem] at hD); go_simp; first | exact ⟨⟨hC, Ext.refl _⟩, rfl⟩ | exact ⟨⟨hC, RS.refl _⟩, rfl⟩ | exact rfl); simp only [List.nil_append, List.cons_append])
              refine tame_end 196 rfl rfl (fun ρ wz hC hr hF => ?_)
              obtain ⟨hrc', hrg, hrf, hrs⟩ := hr
              simp [go_sem] at hF
              apply frame_to
              · simp (maxSteps := 4000000) [go_sem, hF, hrs]
                exact rfl
              clear hF hrs hrc' hrg hrf
              have EZ := Lib.hid (EY.out.trans hC)
              clear hC d0 d1
              go_wp2
              go_roundg (n2 - (k + 1))
              case measure => omega
              case rel => exact ⟨k + 1, by omega, by omega, by rw [HQ1.out], by rw [HQ2.out], by simp, EZ.out⟩
            · have hp0b : (pi == 0) = false := by simpa using hp0
              have hp0c : (pi != 0) = true := by simpa using hp0
              by_cases hpp : pi = pk
              · have HQ1 := Lib.hid (show prS p L1 i (k + 1) = max (prS p L1 i k) (x.c.len - y.c.len) by rw [HP1.out, if_pos ⟨hp0, hpp⟩])
                have HQ2 := Lib.hid (show prS p L2 i (k + 1) = max (prS p L2 i k) (x.c.str - y.c.str) by rw [HP2.out, if_pos ⟨hp0, hpp⟩])
                subst hpp
                refine wp_region_tame (fun W => Ext wy W) (fun W W' => Ext W W') (by kernel_rfl) 196 rfl (by decide +kernel) (Ext.refl _).drew ?_
                repeat (apply tame_q rfl; (intro ρ W hC hr hD; (obtain ⟨hrc, hrg, hrf, hrs⟩ := hr); (simp [go_sem] at hD); go_simp; first | exact ⟨⟨hC, Ext.refl _⟩, rfl⟩ | exact ⟨⟨hC, RS.refl _⟩, rfl⟩ | exact rfl); simp only [List.nil_append, List.cons_append])
                refine tame_end 196 rfl rfl (fun ρ wz hC hr hF => ?_)
                obtain ⟨hrc', hrg, hrf, hrs⟩ := hr
                simp [go_sem] at hF
                apply frame_to
                · simp (maxSteps := 4000000) [go_sem, hF, hrs]
                  exact rfl
                clear hF hrs hrc' hrg hrf
                have EZ := Lib.hid (EY.out.trans hC)
                have BX2 := Lib.hid (BX.out.ext EZ.out)
                have BY2 := Lib.hid (BY.out.ext hC)
                clear hC d0 d1 EY BY
                have m0 := fun V (h : Ext wz V) => (BX2.out.ext h).cell 6
                have m1 := fun V (h : Ext wz V) => (BX2.out.ext h).cell 7
                have m2 := fun V (h : Ext wz V) => (BY2.out.ext h).cell 6
                have m3 := fun V (h : Ext wz V) => (BY2.out.ext h).cell 7
                have mx1 := fun W => max2_int #[3, 3] 3 (prS p L1 i k) (x.c.len - y.c.len) W
                have mx2 := fun W => max2_int #[3, 3] 3 (prS p L2 i k) (x.c.str - y.c.str) W
                go_upto_region 19 with (fail)
                refine wp_region_tame_cutkG (fun W => Ext wz W) (fun W W' => Ext W W') (OldT 0 14 13 (.int .i64 (prS p L1 i k))) (by kernel_rfl) 196 rfl 15 (by decide +kernel) (by decide +kernel) (by decide +kernel) (Ext.refl _).drew (OldT.start rfl) ?_
                simp only [List.take, List.drop]
                apply tameG_m rfl rfl (.int .i64 (prS p L1 i k))
                · intro ρ L W hC hr hI hL hLs hD
                  have hL0 : L 0 = false := hL
                  have h13 : ρ (.tmp 13) = .int .i64 (prS p L1 i k) := hI.1 (by
                    cases h : L 14 with
                    | false => rfl
                    | true => have h9 := hI.2 h; rw [hL0] at h9; cases h9)
                  have hI2 := OldT.keep (i := 0) (i0 := 0) (i1 := 14) (t := 13) (d := 95) rfl rfl L _ W (.int .i64 (prS p L1 i k)) hI
                  clear hI hLs hL hL0 hD
                  go_simp
                  exact ⟨⟨hC, Ext.refl _⟩, rfl⟩
                simp only [List.nil_append, List.cons_append]
                repeat (apply tameG_q rfl (OldT.keep rfl rfl); (intro ρ W hC hr hD; (obtain ⟨hrc, hrg, hrf, hrs⟩ := hr); (simp [go_sem] at hD); go_simp; first | exact ⟨⟨hC, Ext.refl _⟩, rfl⟩ | exact rfl); simp only [List.nil_append, List.cons_append])
                apply tameG_m rfl rfl
                · intro ρ L W hC hr hI hL hLs hD
                  have h0 : L 0 = true := hLs ⟨0, .phase⟩ (by simp) rfl
                  clear hLs hI hL
                  simp [go_sem] at hD
                  go_simp
                  exact ⟨⟨hC, Ext.refl _⟩, rfl, fun h => (by cases h), fun _ => h0⟩
                simp only [List.nil_append, List.cons_append]
                refine tameG_end_put rfl rfl (fun ρ wq hC hr hF => ?_)
                simp [go_sem] at hF
                simp only [putF, hF, List.set_cons_succ, List.set_cons_zero]
                clear hF hr
                have EQ := Lib.hid (EZ.out.trans hC)
                clear hC m0 m1 m2 m3 mx1 mx2
                go_wp2
                go_roundg (n2 - (k + 1))
                case measure => omega
                case rel => exact ⟨k + 1, by omega, by omega, by rw [HQ1.out], by rw [HQ2.out], by simp, EQ.out⟩
              · have hppb : (pi == pk) = false := by simpa using hpp
                have HQ1 := Lib.hid (show prS p L1 i (k + 1) = prS p L1 i k by rw [HP1.out, if_neg (fun h => hpp h.2)])
                have HQ2 := Lib.hid (show prS p L2 i (k + 1) = prS p L2 i k by rw [HP2.out, if_neg (fun h => hpp h.2)])
                refine wp_region_tame (fun W => Ext wy W) (fun W W' => Ext W W') (by kernel_rfl) 196 rfl (by decide +kernel) (Ext.refl _).drew ?_
                repeat (apply tame_q rfl; (intro ρ W hC hr hD; (obtain ⟨hrc, hrg, hrf, hrs⟩ := hr); (simp [go_sem] at hD); go_simp; first | exact ⟨⟨hC, Ext.refl _⟩, rfl⟩ | exact ⟨⟨hC, RS.refl _⟩, rfl⟩ | exact rfl); simp only [List.nil_append, List.cons_append])
                refine tame_end 196 rfl rfl (fun ρ wz hC hr hF => ?_)
                obtain ⟨hrc', hrg, hrf, hrs⟩ := hr
                simp [go_sem] at hF
                apply frame_to
                · simp (maxSteps := 4000000) [go_sem, hF, hrs]
                  exact rfl
                clear hF hrs hrc' hrg hrf
                have EZ := Lib.hid (EY.out.trans hC)
                clear hC d0 d1
                go_wp2
                go_roundg (n2 - (k + 1))
                case measure => omega
                case rel => exact ⟨k + 1, by omega, by omega, by rw [HQ1.out], by rw [HQ2.out], by simp, EZ.out⟩
          · have HKE := Lib.hid (show k = p.length by have := HPL.out; omega)
            have HR1 := Lib.hid (show prS p L1 (i + 1) 0 = prS p L1 i k by rw [HKE.out]; exact prS_row p L1 i)
            have HR2 := Lib.hid (show prS p L2 (i + 1) 0 = prS p L2 i k by rw [HKE.out]; exact prS_row p L2 i)
            go_wp2
            go_roundg (n2 - (i + 1))
            case measure => omega
            case rel => exact ⟨i + 1, by omega, by omega, by rw [HR1.out], by rw [HR2.out], by simp, EX.out.trans EK.out⟩
        -- END a
      · have HIE := Lib.hid (show i = n2 by omega)
        have HG1 := Lib.hid (show prS p L1 i 0 = u1 by rw [HIE.out]; exact HF1.out)
        have HG2 := Lib.hid (show prS p L2 i 0 = u2 by rw [HIE.out]; exact HF2.out)
        rw [HG1.out, HG2.out]
        have E6 := Lib.hid (E5.out.trans EW.out)
        have B6 := Lib.hid (B5.out.ext EW.out)
        have S6 := Lib.hid (S5.out.ext EW.out)
        clear E5 B5 S5 EW HIE HG1 HG2
        go_wp2_with fail
        refine (two_any u1 u2 _).mono ?_
        rintro e w7 ⟨rfl, hE⟩
        have E7 := Lib.hid (E6.out.trans hE)
        have B7 := Lib.hid (B6.out.ext hE)
        have S7 := Lib.hid (S6.out.ext hE)
        clear hE E6 B6 S6
        go_wp2_with (at_builtin; refine wpList_copyI rfl (.tmp 118) (.tmp 119) rfl (base := w7.heap.size) (g := w7.heap.size) rfl rfl (Blk.at_ (by simp)) (Nat.le_refl _) (by simp) (S7.out.ext (Ext.al _ _)) (by have := HPL.out; omega) ?_)
        intro v1 W1 hown hext
        obtain ⟨go', cap, rfl, hg', hO⟩ := OwB.of hown.1 (by have := HNZ.out; omega)
        have E8 := Lib.hid (show Ext w7 W1 from ((Ext.al w7 (.cells #[] 3)).trans hext))
        have O8 := Lib.hid (show OwB go' cap (turnTo lots p 0) W1 by rw [turnTo_zero]; exact hO)
        have HG8 := Lib.hid (show w7.heap.size ≤ go' from hg')
        have hlc8 : n2 ≤ cap := by have h := hO.le; have := HPL.out; omega
        rw [HPL.out]
        clear hown hext hO hg'
        go_wp2
        go_loopg [123] n2 (fun gg s123 wr => ∃ k : Nat, k ≤ n2 ∧ n2 - k ≤ gg ∧ s123 = .int .i64 (k : Int) ∧ Aside (OwB go' cap (turnTo lots p k) wr) ∧ Aside (Ext w7 wr))
        case atStart => exact ⟨0, by omega, by omega, by simp, O8.out, E8.out⟩
        case round =>
          obtain ⟨k, hk, hgk, rfl, OK, EK⟩ := hrel
          by_cases hkn : k < n2
          · have hkz : (k : Int) < (n2 : Int) := by omega
            have hk0 : (0 : Int) ≤ (k : Int) := by omega
            obtain ⟨y, hy⟩ : ∃ y, p[k]? = some y := ⟨_, List.getElem?_eq_getElem (by have := HPL.out; omega)⟩
            obtain ⟨z0, z1, z2⟩ := OK.out.cell (turnTo_at (lots := lots) hy)
            obtain ⟨hy0, hyl⟩ := HRA.out y (List.mem_of_getElem? hy)
            have hw1 : IntKind.i64.wrap (lots + 1) = lots + 1 := by rw [IntKind.wrap_i64]; omega
            have hw2 : IntKind.i64.wrap (lots + 1 - y) = lots + 1 - y := by rw [IntKind.wrap_i64]; omega
            obtain ⟨b0, b1, b2, bf, bl⟩ := (B7.out.ext EK.out).c3
            by_cases hyz : y = 0
            · have HTQ := Lib.hid (show turnTo lots p (k + 1) = turnTo lots p k by rw [hyz] at hy; exact turnTo_zeroAt hy)
              clear hy
              subst hyz
              go_wp2
              go_roundg (n2 - (k + 1))
              case measure => omega
              case rel => exact ⟨k + 1, by omega, by omega, by simp, by rw [HTQ.out]; exact OK.out, EK.out⟩
            · have hyb : (y == 0) = false := by simpa using hyz
              have HTQ := Lib.hid (turnTo_step (lots := lots) hy hyz)
              clear hy
              go_wp2
              go_roundg (n2 - (k + 1))
              case measure => omega
              case rel => exact ⟨k + 1, by omega, by omega, by simp, by rw [HTQ.out]; exact OK.out.set _, EK.out.setCell (by dsimp only; have := HG8.out; omega) _⟩
          · have HKE := Lib.hid (show p.length ≤ k by have := HPL.out; omega)
            have O9 := Lib.hid (show OwB go' cap (turnP lots p) wr by have h := OK.out; rwa [turnTo_all HKE.out] at h)
            have S9 := Lib.hid (show SlI wr (.slice (some ⟨go', 0, none⟩) n2 cap) (turnP lots p) by
              have h := O9.out.sl
              rwa [show (turnP lots p).length = n2 by unfold turnP; rw [List.length_map]; exact HPL.out] at h)
            have E9 := Lib.hid (E7.out.trans EK.out)
            have B9 := Lib.hid (B7.out.ext EK.out)
            have HTP := Lib.hid (turn_plan HMO.out HP.out)
            have HJT := Lib.hid (judgeE_ok HC.out HTP.out.1)
            have HUT := Lib.hid (show judU (mOf lots size l) (turnP lots p) = unev (mOf lots size l) p from (judU_ok HJT.out).trans HTP.out.2)
            have HU1' := Lib.hid HU1.out
            clear HKE O9 OK EK E7 B7 S7 E8 O8
            obtain ⟨b0, b1, b2, bf, bl⟩ := B9.out.c3
            go_wp2_with fail
            refine (judgeM_any lots size l (turnP lots p) _ _ _ (HT.out.ext E9.out) (HS.out.ext E9.out) S9.out (by have := HLN.out; omega)).mono ?_
            rintro e w10 ⟨rfl, hE⟩
            rw [HUT.out, HJT.out, HU1.out, HU2.out]
            have E10 := Lib.hid (E9.out.trans hE)
            have B10 := Lib.hid (B9.out.ext hE)
            clear hE E9 B9 S9 b0 b1 b2 bf bl
            obtain ⟨b0, b1, b2, bf, bl⟩ := B10.out.c3
            go_wp2_with fail
            refine (twinM_any lots size l _ _ (HS.out.ext E10.out) HG.out).mono ?_
            rintro e w11 ⟨⟨tv, L, rfl, htw⟩, hE⟩
            have E11 := Lib.hid (E10.out.trans hE)
            have B11 := Lib.hid (B10.out.ext hE)
            have HLL := Lib.hid (show L.length = n2 by have := congrArg List.length htw.map; simp at this; have := HL.out; omega)
            have TW := Lib.hid htw
            have HBW := Lib.hid (show w.heap.size < w10.heap.size from B10.out.lt)
            clear hE htw E10 B10 b0 b1 b2 bf bl
            obtain ⟨At, nt, ct, rfl, -, -, -⟩ := TW.out.mlc.1.form
            obtain ⟨g, cur, rfl, hg6, hBg, hnt, hlct, hctm, hcs, htk⟩ := rowC_of TW.out.own (by have := HLL.out; omega)
            obtain rfl : nt = n2 := by have := HLL.out; omega
            clear hnt hcs htk
            go_upto_region 33 with (fail)
            obtain ⟨w12, hw12⟩ : ∃ w12, w12 = w11.alloc (.cells #[.int .i64 lots, .int .i64 size, .slice (some ⟨g, 0, none⟩) nt ct] 24) := ⟨_, rfl⟩
            rw [← hw12]
            obtain ⟨bt, hbt⟩ : ∃ bt, bt = w11.heap.size := ⟨_, rfl⟩
            rw [← hbt]
            have E12 := Lib.hid (show Ext w w12 from hw12 ▸ E11.out.alloc _)
            have B12 := Lib.hid (show Blk w12 w.heap.size 24 #[.int .i64 lots, .int .i64 size, .slice A nt c] from hw12 ▸ B11.out.alloc _)
            have X12 := Lib.hid (show Blk w12 bt 24 #[.int .i64 lots, .int .i64 size, .slice (some ⟨g, 0, none⟩) nt ct] from hbt ▸ hw12 ▸ Blk.new _ _ _)
            have T12 := Lib.hid (show TwinL w10.heap.size (l.map (·.c)) (.slice (some ⟨g, 0, none⟩) nt ct) L w12 from hw12 ▸ TW.out.ext (Ext.al _ _))
            have HG1 := Lib.hid (show (some bt : Option Nat) ≠ some g by intro e; injection e with e; have := hBg.lt; omega)
            have HG2 := Lib.hid (show w.heap.size < g by have := HBW.out; omega)
            have HG3 := Lib.hid (show (some w.heap.size : Option Nat) ≠ some g by intro e; injection e with e; have := HG2.out; omega)
            obtain ⟨b3, off3, x0, rfl, hx0, -, hcx⟩ := HS.out.1.at_ hn0
            have hla := HMO.out.len x0.c (List.mem_map.2 ⟨x0, List.mem_of_getElem? hx0, rfl⟩)
            have hsa := HMO.out.str x0.c (List.mem_map.2 ⟨x0, List.mem_of_getElem? hx0, rfl⟩)
            obtain ⟨a, ha⟩ : ∃ a, x0.c.len = a := ⟨_, rfl⟩
            obtain ⟨b, hb⟩ : ∃ b, x0.c.str = b := ⟨_, rfl⟩
            have HZA := Lib.hid (show ∀ V, Ext w V → V.cell? ⟨b3, off3 + 6, none⟩ = some (.int .i64 a) ∧ V.cell? ⟨b3, off3 + 7, none⟩ = some (.int .i64 b) from fun V h => by
              obtain ⟨_, _, _, _, _, _, q6, q7⟩ := SlC.cells hcx h
              rw [ha] at q6
              rw [hb] at q7
              exact ⟨by simpa using q6, by simpa using q7⟩)
            rw [ha] at hla
            rw [hb] at hsa
            have HCA := Lib.hid (alM_check HC.out hla hsa)
            have HEV := Lib.hid (alM_even HCA.out HP.out)
            have HGT := Lib.hid (show w.heap.size ≤ g by have := HG2.out; omega)
            clear hw12 hbt E11 B11 TW hBg hla hsa hx0 hcx ha hb hg6
            obtain ⟨b0, b1, b2, bf, bl⟩ := X12.out.c3
            go_wp2
            clear b0 b1 b2 bf bl
            go_loopg [151] nt (fun gg s151 wr => ∃ k : Nat, k ≤ nt ∧ nt - k ≤ gg ∧ s151 = .int .i64 (k : Int) ∧ Aside (∃ L, TwinL w10.heap.size (alTo a b (l.map (·.c)) k) (.slice (some ⟨g, 0, none⟩) nt ct) L wr) ∧ Aside (w12.grownBy wr (some g)))
            case atStart => exact ⟨0, by omega, by omega, by simp, ⟨L, by rw [alTo_zero]; exact T12.out⟩, World.grownBy.refl _ _⟩
            case round =>
              obtain ⟨k, hk, hgk, rfl, TK, GK⟩ := hrel
              by_cases hkn : k < nt
              · have hkz : (k : Int) < (nt : Int) := by omega
                have hk0 : (0 : Int) ≤ (k : Int) := by omega
                obtain ⟨LK, tk⟩ := TK.out
                have hmx : (l.map (·.c)).length = nt := by rw [List.length_map]; exact HL.out
                obtain ⟨xk, hxk⟩ : ∃ xk, (l.map (·.c))[k]? = some xk := ⟨_, List.getElem?_eq_getElem (by omega)⟩
                have HTK := Lib.hid tk
                have hlk := alTo_at (a := a) (b := b) hxk
                rw [← tk.map, List.getElem?_map] at hlk
                obtain ⟨rk, hrk, hrc⟩ := Option.map_eq_some_iff.1 hlk
                have HSU := Lib.hid (show alTo a b (l.map (·.c)) (k + 1) = (alTo a b (l.map (·.c)) k).set k (alC a b rk.c) by rw [hrc]; exact alTo_succ hxk)
                have HRK := Lib.hid hrk
                clear hmx hxk hlk hrc tk TK hrk
                have x0 := fun V (h : wr.grownBy V (some g)) => ((X12.out.grown (grown_tr GK.out h) HG1.out).c3).2.2.1
                have y0 := fun V (h : wr.grownBy V (some g)) => ((B12.out.grown (grown_tr GK.out h) HG3.out).c3).2.2.1
                have z0 := fun V (h : wr.grownBy V (some g)) => HZA.out V (ext_grown E12.out (grown_tr GK.out h) HGT.out)
                go_upto_region 36 with (fail)
                refine wp_region_tameN_cut (fun V => wr.grownBy V (some g)) (fun A B => Own encC 63 8 A w10.heap.size (.slice (some ⟨g, 0, none⟩) nt ct) (LK.set k (lenR rk a)) → Own encC 63 8 B w10.heap.size (.slice (some ⟨g, 0, none⟩) nt ct) (LK.set k (lenR rk a))) (fun V => Own encC 63 8 V w10.heap.size (.slice (some ⟨g, 0, none⟩) nt ct) LK) 18 (by kernel_rfl) 196 rfl _ rfl (by decide +kernel) (by decide +kernel) (by decide +kernel) rfl ⟨rfl, rfl, rfl, Nat.le_refl _, fun _ _ _ => rfl⟩ HTK.out.own ?_
                simp only [List.dropLast]
                repeat (apply tameN_q rfl; (intro ρ W hC hN hr hD; (obtain ⟨hrc, hrg, hrf, hrs⟩ := hr); (simp [go_sem] at hD); go_simp; first | exact ⟨⟨hC, fun h => h, fun _ h => h⟩, rfl⟩ | exact ⟨hC, fun h => h, fun _ h => h⟩ | exact ⟨⟨hC, ⟨fun h => h, fun h => h⟩, fun _ h => h⟩, rfl⟩ | exact ⟨hC, ⟨fun h => h, fun h => h⟩, fun _ h => h⟩ | exact rfl); simp only [List.nil_append, List.cons_append])
                apply tameN_n (fun _ V => Own encC 63 8 V w10.heap.size (.slice (some ⟨g, 0, none⟩) nt ct) (LK.set k (lenR rk a))) (fun _ A B _ hR h => hR h)
                · intro ρ V hC hN hr hD
                  obtain ⟨hrc, hrg, hrf, hrs⟩ := hr
                  simp [go_sem] at hD
                  have h0 := hN rfl
                  obtain ⟨t0, t1, t2, t3, t4, t5, t6, t7, tl⟩ := own_atC h0 HRK.out
                  have df : ∀ j, V.frozen? ⟨g, j, none⟩ = false := fun j => own_frozen h0 j
                  have h4 := own_putC1 (x := rk) (y := lenR rk a) (j := 6) (a := .int .i64 a) h0 HRK.out (by decide) rfl
                  have H4 := Lib.hid h4; have HC' := Lib.hid hC
                  clear h4 h0 hN hC
                  go_simp
                  exact ⟨⟨grown_set HC'.out (p := ⟨g, k * 8 + 6, none⟩) (.inl rfl) _, fun _ => H4.out, fun h => by cases h⟩, H4.out⟩
                simp only [List.nil_append, List.cons_append]
                repeat (apply tameN_q rfl; (intro ρ W hC hN hr hD; (obtain ⟨hrc, hrg, hrf, hrs⟩ := hr); (simp [go_sem] at hD); go_simp; first | exact ⟨⟨hC, fun h => h, fun _ h => h⟩, rfl⟩ | exact ⟨hC, fun h => h, fun _ h => h⟩ | exact ⟨⟨hC, ⟨fun h => h, fun h => h⟩, fun _ h => h⟩, rfl⟩ | exact ⟨hC, ⟨fun h => h, fun h => h⟩, fun _ h => h⟩ | exact rfl); simp only [List.nil_append, List.cons_append])
                refine tameN_end_put rfl rfl (fun ρ V hC hr hF => ?_)
                simp [go_sem] at hF
                obtain ⟨f0, f1, f2, f3, f4, f5, f6, f7, f8, f9, f10, f11, f12, f13, f14, f15, f16, f17, fS, f19, f20⟩ := hF
                simp only [putF, f0, f1, f2, f3, f4, f5, f6, f7, f8, f9, f10, f11, f12, f13, f14, f15, f16, f17, f19, f20, List.set_cons_succ, List.set_cons_zero]
                have T1 := Lib.hid (HTK.out.set_ HRK.out fS hC (fun _ h => h))
                have GV := Lib.hid (grown_tr GK.out hC)
                clear f0 f1 f2 f3 f4 f5 f6 f7 f8 f9 f10 f11 f12 f13 f14 f15 f16 f17 fS f19 f20 hr hC x0 y0 z0
                have HR1 := Lib.hid (show (LK.set k (lenR rk a))[k]? = some (lenR rk a) by rw [List.getElem?_set, if_pos rfl, if_pos (List.getElem?_eq_some_iff.1 HRK.out).1])
                obtain ⟨t0, t1, t2, t3, t4, t5, t6, t7, tl⟩ := own_atC T1.out.own HR1.out
                have df : ∀ j, V.frozen? ⟨g, j, none⟩ = false := fun j => own_frozen T1.out.own j
                have T2 := Lib.hid (T1.out.putStr HR1.out b)
                clear t0 t1 t2 t3 t4 t5 t6
                go_wp2
                go_roundg (nt - (k + 1))
                case measure => omega
                case rel =>
                  refine ⟨k + 1, by omega, by omega, by simp, ⟨LK.set k (strR (lenR rk a) b), ?_⟩, grown_set GV.out (p := ⟨g, k * 8 + 7, none⟩) (.inl rfl) _⟩
                  have h := T2.out
                  simp only [List.set_set] at h
                  rw [HSU.out]
                  exact h
              · obtain ⟨LE, te⟩ := TK.out
                have TE := Lib.hid te
                have HKE := Lib.hid (show alTo a b (l.map (·.c)) k = (l.map (·.c)).map (alC a b) from alTo_all (by rw [List.length_map]; have := HL.out; omega))
                have HME := Lib.hid (show mOf lots size LE = alM (mOf lots size l) a b by
                  show (⟨lots, size, LE.map (·.c)⟩ : Mll) = ⟨lots, size, (l.map (·.c)).map (alC a b)⟩
                  rw [te.map, HKE.out])
                have HLE := Lib.hid (show LE.length ≤ 1000 by
                  have h := congrArg List.length te.map
                  rw [HKE.out] at h
                  simp at h
                  have := HL.out; omega)
                have EE := Lib.hid (ext_grown E12.out GK.out HGT.out)
                have x0 := (X12.out.grown GK.out HG1.out).c3
                clear te TK
                go_wp2_with fail
                refine (evenM_any lots size LE _ _ (HT.out.ext EE.out) TE.out.mlc HLE.out).mono ?_
                rintro e w13 ⟨rfl, hE⟩
                rw [HME.out, HEV.out.1, HEV.out.2.1, HEV.out.2.2]
                have E13 := Lib.hid (EE.out.trans hE)
                clear hE EE x0 TE GK
                go_wp2_with fail
                refine (two_any u1 u2 _).mono ?_
                rintro e w14 ⟨rfl, hE⟩
                have E14 := Lib.hid (E13.out.trans hE)
                clear hE E13
                go_wp2_with fail
                refine (two_any 0 0 _).mono ?_
                rintro e w15 ⟨rfl, hE⟩
                have E15 := Lib.hid (E14.out.trans hE)
                clear hE E14
                go_wp2
                go_ret
                exact ⟨rfl, E15.out⟩
  · go_wp2
    go_ret
    exact ⟨rfl, E4.out⟩
end Go.Proofs.YtkpengeaolcjhaaGreatDoor
