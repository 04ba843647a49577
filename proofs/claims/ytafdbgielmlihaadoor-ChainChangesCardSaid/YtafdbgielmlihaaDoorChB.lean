/- The walks of chain.right and chain.Check, and of the reference's House, Sale, chained, Chain, Check, Great. -/
import Derived.Test.YtafdbgielmlihaaDoorChA
namespace Go.Proofs.YtafdbgielmlihaaDoor
open Go.RowKit Go.Shelf
set_option maxRecDepth 100000
set_option linter.unusedSimpArgs false

theorem f149_any (c : Chn) (hv sv : Value) (w : World) (hh : SlI w hv c.houses) (hs : SlL w sv c.sales) :
    Calls Tryd.prog 149 #[valC hv sv] w fun e w' => e = .returned (.bool (!(c.sales.any (badS c.houses)))) ∧ Ext w w' := by
  have HH := Lib.hid hh
  have HS := Lib.hid hs
  obtain ⟨A, n, cp, rfl, hn, hlc, hcm⟩ := hh.form
  obtain ⟨A2, n2, cp2, rfl, hn2, hlc2, hcm2⟩ := hs.form
  clear hh hs
  go_enter Tryd.func149, Tryd.ntmps149
  go_wp2_with fail
  refine (f150_any 151 _ (enters_of Tryd.func151 (by kernel_rfl) rfl) (badS c.houses) c.sales _ _ (HS.out.ext (Ext.al _ _)) ?_).mono ?_
  · intro W x _ hW
    exact f151_any c.houses A n cp w.heap.size x W (Ext.cell1 hW (by simp [go_sem])) (HH.out.ext ((Ext.al _ _).trans hW))
  rintro e w1 ⟨rfl, hE⟩
  generalize hr : c.sales.any (badS c.houses) = r
  have HR := Lib.hid hr; clear hr
  go_wp2
  go_ret
  exact ⟨ret_bool (congrArg (!·) HR.out.symm), (Ext.al _ _).trans hE⟩

def chkA (c : Chn) : Bool := decide (c.houses.length ≤ 6) && risingB 0 c.houses && risingB 0 (c.sales.map (·.number))
set_option maxHeartbeats 400000 in
theorem f147_any (c : Chn) (hv sv : Value) (w : World) (hh : SlI w hv c.houses) (hs : SlL w sv c.sales) (hl : c.sales.length ≤ 1000) :
    Calls Tryd.prog 147 #[valC hv sv] w fun e w' => e = .returned (.bool (chkA c)) ∧ Ext w w' := by
  have HH := Lib.hid hh
  have HS := Lib.hid hs
  have HL := Lib.hid hl
  obtain ⟨A, n, cp, rfl, hn, hlc, hcm⟩ := hh.form
  obtain ⟨A2, n2, cp2, rfl, hn2, hlc2, hcm2⟩ := hs.form
  clear hh hs hl
  by_cases h6 : (n : Int) ≤ 6
  · have D := Lib.hid (show decide (c.houses.length ≤ 6) = true by have := hn.out; simp; omega)
    go_enter Tryd.func147, Tryd.ntmps147
    go_wp2_with fail
    refine (rising_any c.houses _ _ (HH.out.ext (Ext.al _ _))).mono ?_
    rintro e w1 ⟨rfl, hE⟩
    obtain ⟨hc, hf, hz, HE⟩ := hE.use
    simp at hz
    have hz1 : w.heap.size < w1.heap.size := by omega
    have HE1 := Lib.hid ((Ext.al w _).trans HE.out); clear hE HE
    cases hA : risingB 0 c.houses with
    | false =>
      have HA := Lib.hid hA; clear hA
      go_wp2
      go_ret
      exact ⟨ret_bool (by unfold chkA; rw [D.out, HA.out]; rfl), HE1.out⟩
    | true =>
      have HA := Lib.hid hA; clear hA
      go_wp2_with fail
      refine (numbers_any c.sales _ _ (HS.out.ext HE1.out) HL.out).mono ?_
      rintro e w2 ⟨⟨v', rfl, hown⟩, hE⟩
      have HO := Lib.hid (show SlI w2 v' (c.sales.map (·.number)) from hown.sl (fun _ => rfl))
      have HE2 := Lib.hid (HE1.out.trans hE); clear hE hown
      go_wp2_with fail
      refine (rising_any _ _ _ HO.out).mono ?_
      rintro e w3 ⟨rfl, hE⟩
      have HE3 := Lib.hid (HE2.out.trans hE); clear hE
      go_wp2
      go_ret
      exact ⟨ret_bool (by unfold chkA; rw [D.out, HA.out]; rfl), HE3.out⟩
  · have D := Lib.hid (show decide (c.houses.length ≤ 6) = false by have := hn.out; simp; omega)
    go_enter Tryd.func147, Tryd.ntmps147
    go_wp2
    go_ret
    exact ⟨ret_bool (by unfold chkA; rw [D.out]; rfl), Ext.al _ _⟩

/-- The table of checks, as the program lays it. -/
def Tab (w : World) : Prop := 0 < w.heap.size ∧ w.cell? ⟨0, 0, none⟩ = some (.func (.func 147) #[] #[]) ∧ w.cell? ⟨0, 1, none⟩ = some (.func (.func 149) #[] #[])
theorem Tab.ext {w w' : World} (h : Tab w) (e : Ext w w') : Tab w' := by
  obtain ⟨h0, h1, h2⟩ := h
  exact ⟨Nat.lt_of_lt_of_le h0 e.size, (e.cells.1 _ _ h0).trans h1, (e.cells.1 _ _ h0).trans h2⟩
theorem tab_i0 (W : World) : Sem.run Tryd.prog (Instr.index 149 (.agg #[.func (.func 147) #[] #[], .func (.func 149) #[] #[]]) (.int .i64 0)) W = .ok (.agg #[.func (.func 147) #[] #[]]) W := by kernel_rfl
theorem tab_i1 (W : World) : Sem.run Tryd.prog (Instr.index 149 (.agg #[.func (.func 147) #[] #[], .func (.func 149) #[] #[]]) (.int .i64 1)) W = .ok (.agg #[.func (.func 149) #[] #[]]) W := by kernel_rfl
def errB (ok : Bool) (e : Int) : Int := if ok then 0 else e

set_option maxHeartbeats 1000000 in
theorem right_any (c : Chn) (hv sv : Value) (w : World) (hT : Tab w) (hh : SlI w hv c.houses) (hs : SlL w sv c.sales) (hl : c.sales.length ≤ 1000) :
    Calls Tryd.prog 78 #[valC hv sv] w fun e w' => e = .returned (.bool (rightP c)) ∧ Ext w w' := by
  have i0 := tab_i0
  have i1 := tab_i1
  have HH := Lib.hid hh
  have HS := Lib.hid hs
  have HL := Lib.hid hl
  obtain ⟨A, n, cp, rfl, hn, hlc, hcm⟩ := hh.form
  obtain ⟨A2, n2, cp2, rfl, hn2, hlc2, hcm2⟩ := hs.form
  obtain ⟨h0, t0, t1⟩ := hT
  clear hh hs hl
  go_enter Tryd.func78, Tryd.ntmps78
  go_wp2
  go_loopg [6] 2 (fun gg s wr => ∃ i : Int, s = .int .i64 i ∧ (i = 0 ∨ i = 1 ∨ i = 2) ∧ (2 - i).toNat ≤ gg ∧ Aside ((0 < i → chkA c = true) ∧ (1 < i → (!(c.sales.any (badS c.houses))) = true)) ∧
    Aside (Ext (w.alloc (.cells #[.slice A n cp, .slice A2 n2 cp2] 25)) wr))
  case atStart => exact ⟨0, rfl, .inl rfl, by omega, ⟨by omega, by omega⟩, Ext.refl _⟩
  case round =>
    obtain ⟨i, rfl, hi, hg, CH, BW⟩ := hrel
    obtain ⟨hc, hf, hz, -⟩ := BW.out.use
    simp at hz
    have hz1 : w.heap.size < wr.heap.size := by omega
    have HE := Lib.hid (show Ext w wr from (Ext.al _ _).trans BW.out)
    have HR := Lib.hid (show rightP c = (chkA c && !(c.sales.any (badS c.houses))) from rfl)
    rcases hi with rfl | rfl | rfl
    · go_wp2_with fail
      refine (f147_any c _ _ _ (HH.out.ext (HE.out.trans (Ext.al _ _))) (HS.out.ext (HE.out.trans (Ext.al _ _))) HL.out).mono ?_
      rintro e w' ⟨rfl, hb'⟩
      have E2 := Lib.hid ((BW.out.trans (Ext.al _ _)).trans hb'); clear hb'
      cases hq : chkA c
      · have HQ := Lib.hid hq; clear hq
        go_wp2
        go_ret
        exact ⟨ret_bool (by rw [HR.out, HQ.out]; rfl), (Ext.al _ _).trans E2.out⟩
      · have HQ := Lib.hid hq; clear hq
        go_wp2
        go_roundg 1
        case measure => omega
        case rel => exact ⟨1, rfl, by omega, by omega, ⟨fun _ => HQ.out, by omega⟩, E2.out⟩
    · go_wp2_with fail
      refine (f149_any c _ _ _ (HH.out.ext (HE.out.trans (Ext.al _ _))) (HS.out.ext (HE.out.trans (Ext.al _ _)))).mono ?_
      rintro e w' ⟨rfl, hb'⟩
      have E2 := Lib.hid ((BW.out.trans (Ext.al _ _)).trans hb'); clear hb'
      cases hq : (!(c.sales.any (badS c.houses)))
      · have HQ := Lib.hid hq; clear hq
        go_wp2
        go_ret
        exact ⟨ret_bool (by rw [HR.out, HQ.out, CH.out.1 (by omega)]; rfl), (Ext.al _ _).trans E2.out⟩
      · have HQ := Lib.hid hq; clear hq
        go_wp2
        go_roundg 0
        case measure => omega
        case rel => exact ⟨2, rfl, by omega, by omega, ⟨fun _ => CH.out.1 (by omega), fun _ => HQ.out⟩, E2.out⟩
    · go_wp2
      go_ret
      exact ⟨ret_bool (by rw [HR.out, CH.out.1 (by omega), CH.out.2 (by omega)]; rfl), HE.out⟩

theorem check_any (c : Chn) (hv sv : Value) (w : World) (hT : Tab w) (hh : SlI w hv c.houses) (hs : SlL w sv c.sales) (hl : c.sales.length ≤ 1000) :
    Calls Tryd.prog 24 #[valC hv sv] w fun e w' => e = .returned (.int .i64 (errB (checkP c) 60)) ∧ Ext w w' := by
  have HT := Lib.hid hT
  have HH := Lib.hid hh
  have HS := Lib.hid hs
  have HL := Lib.hid hl
  obtain ⟨A, n, cp, rfl, hn, hlc, hcm⟩ := hh.form
  obtain ⟨A2, n2, cp2, rfl, hn2, hlc2, hcm2⟩ := hs.form
  clear hh hs hl hT
  by_cases h10 : (10 : Int) < n2
  · have D := Lib.hid (show decide (c.sales.length ≤ 10) = false by have := hn2.out; simp; omega)
    go_enter Tryd.func24, Tryd.ntmps24
    go_wp2
    go_ret
    exact ⟨ret_int (by unfold checkP; rw [D.out]; rfl), Ext.al _ _⟩
  · have D := Lib.hid (show decide (c.sales.length ≤ 10) = true by have := hn2.out; simp; omega)
    go_enter Tryd.func24, Tryd.ntmps24
    go_wp2_with fail
    refine (right_any c _ _ _ (HT.out.ext (Ext.al _ _)) (HH.out.ext (Ext.al _ _)) (HS.out.ext (Ext.al _ _)) HL.out).mono ?_
    rintro e w1 ⟨rfl, hE⟩
    have HE := Lib.hid ((Ext.al _ _).trans hE); clear hE
    cases hq : rightP c
    all_goals
      have HQ := Lib.hid hq; clear hq
      go_wp2
      go_ret
      exact ⟨ret_int (by unfold checkP; rw [D.out, HQ.out]; rfl), HE.out⟩

/-! The reference's. -/
theorem within_any (n lo hi : Int) (w : World) : Calls Tryd.prog 91 #[.int .i64 n, .int .i64 lo, .int .i64 hi] w fun e w' => e = .returned (.bool (inB lo hi n)) ∧ w = w' := by
  go_enter Tryd.func91, Tryd.ntmps91
  go_wp2
  all_goals go_ret
  all_goals exact ⟨ret_bool (by unfold inB; first | (simp [*]; done) | (simp [*]; omega)), rfl⟩

set_option maxHeartbeats 400000 in
theorem house_any (c : Chn) (id : Int) (hv sv : Value) (w : World) (hh : SlI w hv c.houses) (hs : SlL w sv c.sales) :
    Calls Tryd.prog 64 #[valC hv sv, .int .i64 id] w fun e w' => e = .returned (.int .i64 (houseI c id)) ∧ Ext w w' := by
  have HH := Lib.hid hh
  obtain ⟨A, n, cp, rfl, hn, hlc, hcm⟩ := hh.form
  obtain ⟨A2, n2, cp2, rfl, hn2, hlc2, hcm2⟩ := hs.form
  clear hh hs
  go_enter Tryd.func64, Tryd.ntmps64
  go_wp2
  go_loopg [5] n (fun gg s wr => ∃ kk : Nat, kk ≤ n ∧ n - kk ≤ gg ∧ s = .int .i64 kk ∧ Aside (Ext (w.alloc (.cells #[.slice A n cp, .slice A2 n2 cp2] 25)) wr) ∧ Aside (∀ j y, j < kk → c.houses[j]? = some y → decide (y = id) = false))
  case atStart => exact ⟨0, Nat.zero_le _, by omega, rfl, Ext.refl _, fun j y hj => absurd hj (Nat.not_lt_zero _)⟩
  case round =>
    obtain ⟨kk, hkk, hg, rfl, BW, FA⟩ := hrel
    obtain ⟨hc, hf, hz, -⟩ := BW.out.use
    simp at hz
    have hz1 : w.heap.size < wr.heap.size := by omega
    by_cases hlt : kk < n
    · have hltz : (kk : Int) < (n : Int) := by omega
      obtain ⟨b, off, y, rfl, hx, hb, hcell⟩ := HH.out.at_ hlt
      have c0 := SlI.cell hcell ((Ext.al _ _).trans BW.out)
      have HX := Lib.hid hx; clear hx hcell hb
      by_cases hq : y = id
      · have HQ := Lib.hid (show decide (y = id) = true by simp [hq])
        go_wp2
        go_ret
        exact ⟨by unfold houseI; rw [idxF_some _ _ kk y HX.out HQ.out FA.out]; rfl, (Ext.al _ _).trans BW.out⟩
      · have HQ := Lib.hid (show decide (y = id) = false by simp [hq])
        go_wp2
        go_roundg (n - (kk + 1))
        case measure => omega
        case rel => exact ⟨kk + 1, by omega, by omega, by simp, BW.out, fun j z hj hz => by
          rcases Nat.lt_succ_iff_lt_or_eq.1 hj with h | rfl
          · exact FA.out j z h hz
          · rw [HX.out] at hz; cases hz; exact HQ.out⟩
    · have HE := Lib.hid (show kk = n by omega)
      go_wp2
      go_ret
      exact ⟨by unfold houseI; rw [idxF_none _ _ (fun x hx => by obtain ⟨j, hj⟩ := List.getElem?_of_mem hx; exact FA.out j x (by have := (List.getElem?_eq_some_iff.1 hj).1; have := HE.out; have := hn.out; omega) hj)]; rfl, (Ext.al _ _).trans BW.out⟩

set_option maxHeartbeats 400000 in
theorem saleIdx_any (c : Chn) (id : Int) (hv sv : Value) (w : World) (hh : SlI w hv c.houses) (hs : SlL w sv c.sales) :
    Calls Tryd.prog 69 #[valC hv sv, .int .i64 id] w fun e w' => e = .returned (.int .i64 (saleI c id)) ∧ Ext w w' := by
  have HS := Lib.hid hs
  obtain ⟨A2, n2, cp2, rfl, hn2, hlc2, hcm2⟩ := hh.form
  obtain ⟨A, n, cp, rfl, hn, hlc, hcm⟩ := hs.form
  clear hh hs
  go_enter Tryd.func69, Tryd.ntmps69
  go_wp2
  go_loopg [5] n (fun gg s wr => ∃ kk : Nat, kk ≤ n ∧ n - kk ≤ gg ∧ s = .int .i64 kk ∧ Aside (Ext (w.alloc (.cells #[.slice A2 n2 cp2, .slice A n cp] 25)) wr) ∧ Aside (∀ j (y : Sale), j < kk → c.sales[j]? = some y → decide (y.number = id) = false))
  case atStart => exact ⟨0, Nat.zero_le _, by omega, rfl, Ext.refl _, fun j y hj => absurd hj (Nat.not_lt_zero _)⟩
  case round =>
    obtain ⟨kk, hkk, hg, rfl, BW, FA⟩ := hrel
    obtain ⟨hc, hf, hz, -⟩ := BW.out.use
    simp at hz
    have hz1 : w.heap.size < wr.heap.size := by omega
    by_cases hlt : kk < n
    · have hltz : (kk : Int) < (n : Int) := by omega
      obtain ⟨b, off, y, rfl, hx, hb, hcell⟩ := HS.out.at_ hlt
      obtain ⟨c0, -⟩ := SlL.cells hcell ((Ext.al _ _).trans BW.out)
      have HX := Lib.hid hx; clear hx hcell hb
      by_cases hq : y.number = id
      · have HQ := Lib.hid (show decide (y.number = id) = true by simp [hq])
        go_wp2
        go_ret
        exact ⟨by unfold saleI; rw [idxF_some _ _ kk y HX.out HQ.out FA.out]; rfl, (Ext.al _ _).trans BW.out⟩
      · have HQ := Lib.hid (show decide (y.number = id) = false by simp [hq])
        go_wp2
        go_roundg (n - (kk + 1))
        case measure => omega
        case rel => exact ⟨kk + 1, by omega, by omega, by simp, BW.out, fun j z hj hz => by
          rcases Nat.lt_succ_iff_lt_or_eq.1 hj with h | rfl
          · exact FA.out j z h hz
          · rw [HX.out] at hz; cases hz; exact HQ.out⟩
    · have HE := Lib.hid (show kk = n by omega)
      go_wp2
      go_ret
      exact ⟨by unfold saleI; rw [idxF_none _ _ (fun x hx => by obtain ⟨j, hj⟩ := List.getElem?_of_mem hx; exact FA.out j x (by have := (List.getElem?_eq_some_iff.1 hj).1; have := HE.out; have := hn.out; omega) hj)]; rfl, (Ext.al _ _).trans BW.out⟩

def greatB (c : Chn) : Bool := decide (15 < (c.houses.length : Int)) || decide (30 < (c.sales.length : Int))
theorem great_any (c : Chn) (hv sv : Value) (w : World) (hh : SlI w hv c.houses) (hs : SlL w sv c.sales) :
    Calls Tryd.prog 18 #[valC hv sv] w fun e w' => e = .returned (.bool (greatB c)) ∧ Ext w w' := by
  obtain ⟨A, n, cp, rfl, hn, hlc, hcm⟩ := hh.form
  obtain ⟨A2, n2, cp2, rfl, hn2, hlc2, hcm2⟩ := hs.form
  clear hh hs
  go_enter Tryd.func18, Tryd.ntmps18
  go_wp2
  all_goals go_ret
  all_goals exact ⟨ret_bool (by unfold greatB; rw [← hn.out, ← hn2.out]; try simp [*]), Ext.al _ _⟩
end Go.Proofs.YtafdbgielmlihaaDoor
