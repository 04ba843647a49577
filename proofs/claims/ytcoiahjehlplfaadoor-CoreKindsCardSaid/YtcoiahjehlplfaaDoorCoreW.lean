/- How damp a bale was: slices.Index at numbers, the place of a weighing, core.damp. -/
import Derived.Test.YtcoiahjehlplfaaDoorCoreV
namespace Go.Proofs.YtcoiahjehlplfaaDoor
open Go.RowKit Go.Shelf
set_option maxRecDepth 100000
set_option linter.unusedSimpArgs false

set_option maxHeartbeats 400000 in
theorem f59_any (l : List Int) (x : Int) (v : Value) (w : World) (hs : SlI w v l) :
    Calls Tryd.prog 59 #[v, .int .i64 x] w fun e w' => e = .returned (.int .i64 (idxF (fun y => decide (x = y)) l)) ∧ Ext w w' := by
  obtain ⟨A, n, c, rfl, hn, hlc, hcm⟩ := hs.form
  go_enter Tryd.func59, Tryd.ntmps59
  go_wp2
  go_loopg [5, 8] n (fun gg _ s8 wr => ∃ kk : Nat, kk ≤ n ∧ n - kk ≤ gg ∧ s8 = .int .i64 kk ∧ Aside (Ext w wr) ∧ Aside (∀ j y, j < kk → l[j]? = some y → decide (x = y) = false))
  case atStart => exact ⟨0, Nat.zero_le _, by omega, rfl, Ext.refl w, fun j y hj => absurd hj (Nat.not_lt_zero _)⟩
  case round =>
    obtain ⟨kk, hkk, hg, rfl, BW, FA⟩ := hrel
    by_cases hlt : kk < n
    · have hltz : (kk : Int) < (n : Int) := by omega
      obtain ⟨b, off, y, rfl, hx, hb, hcell⟩ := hs.at_ hlt
      have c0 := SlI.cell hcell BW.out
      have HX := Lib.hid hx; clear hx hcell hs
      by_cases hq : x = y
      · have HQ := Lib.hid (show decide (x = y) = true by simp [hq])
        go_wp2
        go_ret
        exact ⟨by rw [idxF_some _ l kk y HX.out HQ.out FA.out]; rfl, BW.out⟩
      · have HQ := Lib.hid (show decide (x = y) = false by simp [hq])
        go_wp2
        go_roundg (n - (kk + 1))
        case measure => omega
        case rel => exact ⟨kk + 1, by omega, by omega, rfl, BW.out, fun j z hj hz => by
          rcases Nat.lt_succ_iff_lt_or_eq.1 hj with h | rfl
          · exact FA.out j z h hz
          · rw [HX.out] at hz; cases hz; exact HQ.out⟩
    · have HE := Lib.hid (show kk = n by omega); clear hs
      go_wp2
      go_ret
      exact ⟨by rw [idxF_none _ l (fun x hx => by obtain ⟨j, hj⟩ := List.getElem?_of_mem hx; exact FA.out j x (by have := (List.getElem?_eq_some_iff.1 hj).1; have := HE.out; have := hn.out; omega) hj)]; rfl, BW.out⟩

/-- The place of a weighing. -/
def wIdx (b : Bale) (number : Int) : Int := idxF (fun x : Weigh => decide (x.number = number)) b.weighs
theorem wIdx_eq (b : Bale) (number : Int) : idxF (fun y => decide (number = y)) (b.weighs.map (·.number)) = wIdx b number := by
  unfold wIdx idxF
  rw [List.findIdx?_map]
  congr 1
  congr 1
  funext x
  simp [Function.comp, eq_comm]

set_option maxHeartbeats 400000 in
theorem f63_any (b : Bale) (number : Int) (dv wv : Value) (w : World) (hd : SlD w dv b.draws) (hw : SlW w wv b.weighs) :
    Calls Tryd.prog 63 #[valB b dv wv, .int .i64 number] w fun e w' => e = .returned (.int .i64 (wIdx b number)) ∧ Ext w w' := by
  obtain ⟨A, n, cp, rfl, hn, hlc, hcm⟩ := hd.form
  obtain ⟨A2, n2, cp2, rfl, hn2, hlc2, hcm2⟩ := hw.form
  go_enter Tryd.func63, Tryd.ntmps63
  go_wp2
  go_loopg [5] n2 (fun gg s wr => ∃ kk : Nat, kk ≤ n2 ∧ n2 - kk ≤ gg ∧ s = .int .i64 kk ∧ Aside (Ext (w.alloc (.cells #[.int .i64 b.id, .int .i64 b.layers, .int .i64 b.dry.lo, .int .i64 b.dry.hi, .slice A n cp, .slice A2 n2 cp2] 27)) wr) ∧ Aside (∀ j y, j < kk → b.weighs[j]? = some y → decide (y.number = number) = false))
  case atStart => exact ⟨0, Nat.zero_le _, by omega, rfl, Ext.refl _, fun j y hj => absurd hj (Nat.not_lt_zero _)⟩
  case round =>
    obtain ⟨kk, hkk, hg, rfl, BW, FA⟩ := hrel
    have q5 := (BW.out.cells.1 w.heap.size 5 (by simp)).trans (show _ = some (.slice A2 n2 cp2) by simp [go_sem])
    by_cases hlt : kk < n2
    · have hltz : (kk : Int) < (n2 : Int) := by omega
      obtain ⟨bb, off, y, rfl, hx, hb, hcell⟩ := hw.at_ hlt
      obtain ⟨c0, c1, c2, c3⟩ := SlW.cells hcell ((Ext.al _ _).trans BW.out)
      have HX := Lib.hid hx; clear hx hcell hw hd
      by_cases hq : y.number = number
      · have HQ := Lib.hid (show decide (y.number = number) = true by simp [hq])
        go_wp2
        go_ret
        exact ⟨by unfold wIdx; rw [idxF_some _ b.weighs kk y HX.out HQ.out FA.out]; rfl, (Ext.al _ _).trans BW.out⟩
      · have HQ := Lib.hid (show decide (y.number = number) = false by simp [hq])
        go_wp2
        go_roundg (n2 - (kk + 1))
        case measure => omega
        case rel => exact ⟨kk + 1, by omega, by omega, rfl, BW.out, fun j z hj hz => by
          rcases Nat.lt_succ_iff_lt_or_eq.1 hj with h | rfl
          · exact FA.out j z h hz
          · rw [HX.out] at hz; cases hz; exact HQ.out⟩
    · have HE := Lib.hid (show kk = n2 by omega); clear hw hd
      go_wp2
      go_ret
      exact ⟨by unfold wIdx; rw [idxF_none _ b.weighs (fun x hx => by obtain ⟨j, hj⟩ := List.getElem?_of_mem hx; exact FA.out j x (by have := (List.getElem?_eq_some_iff.1 hj).1; have := HE.out; have := hn2.out; omega) hj)]; rfl, (Ext.al _ _).trans BW.out⟩

theorem f61_any (i : Int) (g : Nat) (w : World) (h1 : w.cell? ⟨g, 0, none⟩ = some (.int .i64 i)) :
    Calls Tryd.prog 61 #[.pointer (some ⟨g, 0, none⟩)] w fun e w' => e = .returned (.bool (decide (0 ≤ i))) ∧ Ext w w' := by
  go_enter Tryd.func61, Tryd.ntmps61
  by_cases h : 0 ≤ i
  · go_wp2
    go_ret
    exact ⟨by simp [h], Ext.refl _⟩
  · go_wp2
    go_ret
    exact ⟨by simp [h], Ext.refl _⟩

/-! How damp a bale of a dry weight was. -/
def rsOf (x : Weigh) : List Int := (List.range (x.damp.hi - x.damp.lo + 1).toNat).map fun (i : Nat) => x.damp.lo + (i : Int)
def dLo (d : Int) (x : Weigh) : Int := ((rsOf x).find? fun r => decide (x.pounds ≤ weight d r)).getD 0
def dHi (d : Int) (x : Weigh) : Int := (((List.range (x.damp.hi - x.damp.lo + 1).toNat).map fun (i : Nat) => x.damp.hi - (i : Int)).find? fun r => decide (weight d r ≤ x.pounds)).getD 0
theorem mem_rs {x : Weigh} {r : Int} : r ∈ rsOf x ↔ x.damp.lo ≤ r ∧ r ≤ x.damp.hi := by
  unfold rsOf
  simp only [List.mem_map, List.mem_range]
  constructor
  · rintro ⟨i, hi, rfl⟩; omega
  · rintro ⟨h1, h2⟩; exact ⟨(r - x.damp.lo).toNat, by omega, by omega⟩
theorem find_at {n : Nat} {f : Nat → Int} {p : Int → Bool} {k : Nat} (hk : k < n) (h1 : p (f k) = true) (h2 : ∀ j, j < k → p (f j) = false) : ((List.range n).map f).find? p = some (f k) := by
  rw [List.find?_map, Option.map_eq_some_iff]
  refine ⟨k, ?_, rfl⟩
  rw [List.find?_range_eq_some]
  exact ⟨h1, by simpa using hk, fun j hj => by simp only [Function.comp]; rw [h2 j hj]; rfl⟩
/-- Found from below. -/
theorem dLo_of {d lo : Int} {x : Weigh} (h1 : x.damp.lo ≤ lo) (h2 : lo ≤ x.damp.hi) (h3 : x.pounds ≤ weight d lo) (h4 : ∀ r, x.damp.lo ≤ r → r < lo → weight d r < x.pounds) : dLo d x = lo := by
  unfold dLo rsOf
  have e : x.damp.lo + ((lo - x.damp.lo).toNat : Int) = lo := by omega
  rw [find_at (k := (lo - x.damp.lo).toNat) (by omega) (by rw [e]; simpa using h3) (fun j hj => by
    have := h4 (x.damp.lo + j) (by omega) (by omega)
    simp only [decide_eq_false_iff_not]
    omega), e]
  rfl
/-- Found from above. -/
theorem dHi_of {d hi : Int} {x : Weigh} (h1 : x.damp.lo ≤ hi) (h2 : hi ≤ x.damp.hi) (h3 : weight d hi ≤ x.pounds) (h4 : ∀ r, hi < r → r ≤ x.damp.hi → x.pounds < weight d r) : dHi d x = hi := by
  unfold dHi
  have e : x.damp.hi - ((x.damp.hi - hi).toNat : Int) = hi := by omega
  rw [find_at (k := (x.damp.hi - hi).toNat) (by omega) (by rw [e]; simpa using h3) (fun j hj => by
    have := h4 (x.damp.hi - j) (by omega) (by omega)
    simp only [decide_eq_false_iff_not]
    omega), e]
  rfl
end Go.Proofs.YtcoiahjehlplfaaDoor
