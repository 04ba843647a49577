/- core.Can, Layer, ends, Best, Worst. -/
import Derived.Test.YtkpengeaolcjhaaGreatDoorPkMlBoundsCardC
import Derived.Handy
import Derived.Test.YtkpengeaolcjhaaGreatDoorPkMlBoundsCardB
namespace Go.Proofs.YtkpengeaolcjhaaGreatDoor
open Go.RowKit Go.Shelf
set_option maxRecDepth 100000

theorem ret_set2 {P : Program} {fn : Func} {R : Ending → World → Prop} {ex : Exit} {a : Act} {w1 : World} {g : Nat} {t : TypeId} {x0 x1 y0 y1 : Value} (hB : Blk w1 g t #[x0, x1])
    (h : ∀ W, (W.cell? ⟨g, 0, none⟩ = some y0 ∧ W.cell? ⟨g, 1, none⟩ = some y1) → w1.grownBy W (some g) → bodyPost P fn R ex a W) :
    bodyPost P fn R ex a ((w1.setCell ⟨g, 0, none⟩ y0).setCell ⟨g, 1, none⟩ y1) :=
  have H := (hB.set_ 0 y0).set_ 1 y1
  h _ ⟨H.cell 0, H.cell 1⟩ (grown_set (grown_set (World.grownBy.refl _ _) (p := ⟨g, 0, none⟩) (.inl rfl) y0) (p := ⟨g, 1, none⟩) (.inl rfl) y1)
theorem ret_set2a {P : Program} {fn : Func} {R : Ending → World → Prop} {ex : Exit} {a : Act} {w1 : World} {g : Nat} {t : TypeId} {x0 x1 y0 y1 : Value} {o : Obj} (hB : Blk w1 g t #[x0, x1])
    (h : ∀ W, (W.cell? ⟨g, 0, none⟩ = some y0 ∧ W.cell? ⟨g, 1, none⟩ = some y1) → w1.grownBy W (some g) → bodyPost P fn R ex a W) :
    bodyPost P fn R ex a (((w1.setCell ⟨g, 0, none⟩ y0).setCell ⟨g, 1, none⟩ y1).alloc o) :=
  have H := ((hB.set_ 0 y0).set_ 1 y1).alloc o
  h _ ⟨H.cell 0, H.cell 1⟩ (grown_ext (grown_set (grown_set (World.grownBy.refl _ _) (p := ⟨g, 0, none⟩) (.inl rfl) y0) (p := ⟨g, 1, none⟩) (.inl rfl) y1) (Ext.al _ _))
def layerB (b : Bale) (r : Bool) (at' : Int) : Span := if askE b r 31 = 0 then ((spans b)[at'.toNat]?).getD ⟨0, 0⟩ else ⟨0, 0⟩
theorem askE_zero {b : Bale} {r : Bool} {e : Int} (h : askE b r e = 0) (he : e ≠ 0) : valid b = true ∧ r = true ∧ okB b = true := by
  unfold askE at h
  split at h
  · split at h
    · split at h
      · exact ⟨‹_›, ‹_›, ‹_›⟩
      · cases h
    · exact absurd h he
  · cases h
theorem spans_len (b : Bale) : (spans b).length = b.layers.toNat := by unfold spans; exact spansTo_len _ _

end Go.Proofs.YtkpengeaolcjhaaGreatDoor
/- core.ends, Best, Worst. -/
namespace Go.Proofs.YtkpengeaolcjhaaGreatDoor
open Go.RowKit Go.Shelf
set_option maxRecDepth 100000

def endStep (f : Int → Int → Int) (s x : Span) : Span := ⟨f s.lo x.lo, f s.hi x.hi⟩
def endsOf (f : Int → Int → Int) (l : List Span) : Span := l.foldl (endStep f) (l[0]?.getD ⟨0, 0⟩)
def endsB (f : Int → Int → Int) (b : Bale) : Span := if askE b true 0 = 0 then endsOf f (spans b) else ⟨0, 0⟩

theorem askE_zero' {b : Bale} (h : askE b true 0 = 0) : valid b = true ∧ okB b = true := by
  unfold askE at h
  split at h
  · simp only [if_true] at h
    split at h
    · exact ⟨‹_›, ‹_›⟩
    · cases h
  · cases h

end Go.Proofs.YtkpengeaolcjhaaGreatDoor
/- The reference: True, asked, Can, Layer, Best, Worst. -/
namespace Go.Proofs.YtkpengeaolcjhaaGreatDoor
open Go.RowKit Go.Shelf
set_option maxRecDepth 100000

theorem okB_eq (b : Bale) : (grown (spans b) && decide (0 < (dries b).length)) = okB b := by
  unfold okB; cases dries b <;> simp
def RAsked (b : Bale) (w : World) (e : Ending) (w' : World) : Prop :=
  ∃ sv lv, e = .returned (.tuple #[sv, lv, .int .i64 (askE b true 0)]) ∧ (askE b true 0 = 0 → SlS w' sv (spans b) ∧ SlI w' lv (dries b)) ∧ Ext w w'
theorem RAsked.bad {b : Bale} {w w' : World} {E : Int} (hE : E = askE b true 0) (h0 : askE b true 0 ≠ 0) (h : Ext w w') : RAsked b w (.returned (.tuple #[.slice none 0 0, .slice none 0 0, .int .i64 E])) w' := by
  subst hE; exact ⟨_, _, rfl, fun h => absurd h h0, h⟩
theorem refAsked_any (b : Bale) (dv wv : Value) (w : World) (hd : SlD w dv b.draws) (hw : SlW w wv b.weighs) :
    Calls Tryz.prog 130 #[valB b dv wv] w (RAsked b w) := by
  have HD := Lib.hid hd
  have HW := Lib.hid hw
  obtain ⟨A, n, cp, rfl, hn, hlc, hcm⟩ := hd.form
  obtain ⟨A2, n2, cp2, rfl, hn2, hlc2, hcm2⟩ := hw.form
  clear hd hw
  go_enter Tryz.func130, Tryz.ntmps130
  go_wp2_with fail
  refine (refBale_v b _ _ _ (HD.out.ext (Ext.al _ _)) (HW.out.ext (Ext.al _ _))).mono ?_
  rintro e w1 ⟨rfl, hE⟩
  obtain ⟨hc, hf, hz, HE⟩ := hE.use
  have HE1 := Lib.hid ((Ext.al w _).trans HE.out)
  have hz0 : w.heap.size < w1.heap.size := by simp at hz; omega
  cases hv : valid b with
  | false =>
    have HV := Lib.hid hv; clear hv
    go_wp2
    refine bodyPost_ret (v := .tuple #[.slice none 0 0, .slice none 0 0, .int .i64 30]) (by simp [results, Tryz.results130, go_sem]) rfl ?_
    exact RAsked.bad (by unfold askE; rw [HV.out]; rfl) (by unfold askE; rw [HV.out]; simp) HE1.out
  | true =>
    have HV := Lib.hid hv; clear hv
    have HB := Lib.hid (valid_bds HV.out)
    go_wp2_with fail
    refine (layers_any b _ _ _ (HD.out.ext HE1.out) (HW.out.ext HE1.out) HB.out.l1 HB.out.l5).mono ?_
    rintro e w2 ⟨v, rfl, hs, hE2⟩
    obtain ⟨hc2, hf2, hz2, HE2⟩ := hE2.use
    have HE3 := Lib.hid (HE1.out.trans HE2.out)
    have HDW := Lib.hid (show SlD w2 (.slice A n cp) b.draws ∧ SlW w2 (.slice A2 n2 cp2) b.weighs from ⟨HD.out.ext HE3.out, HW.out.ext HE3.out⟩)
    have HS := Lib.hid hs; clear hs
    generalize hg : grown (spans b) = gr
    have HG := Lib.hid hg; clear hg
    go_wp2_with fail
    refine (dries_any b _ _ _ HDW.out.1 HDW.out.2 HB.out.lo HB.out.lh HB.out.hi (fun x hx => by have := HB.out.w x hx; omega)).mono ?_
    rintro e w3 ⟨v2, rfl, hl, hE4⟩
    obtain ⟨Al, nl, cl, rfl, hnl, hlc', hlm⟩ := hl.form
    have HL := Lib.hid hl
    have HE5 := Lib.hid (HE3.out.trans hE4)
    have HS2 := Lib.hid (show grown (spans b) = true → SlS w3 v (spans b) from fun h => (HS.out h).ext hE4)
    clear hE4 hl
    cases gr with
    | false =>
      go_wp2
      refine bodyPost_ret (v := .tuple #[.slice none 0 0, .slice none 0 0, .int .i64 8]) (by simp [results, Tryz.results130, go_sem]) rfl ?_
      have ho : okB b = false := by rw [← okB_eq, HG.out]; rfl
      exact RAsked.bad (by unfold askE; rw [HV.out, ho]; rfl) (by unfold askE; rw [HV.out, ho]; simp) HE5.out
    | true =>
      by_cases h0 : nl = 0
      · have hnz : (nl : Int) = 0 := by omega
        have ho : okB b = false := by rw [← okB_eq, ← hnl.out, h0]; simp
        have HO := Lib.hid ho; clear ho
        go_wp2
        refine bodyPost_ret (v := .tuple #[.slice none 0 0, .slice none 0 0, .int .i64 8]) (by simp [results, Tryz.results130, go_sem]) rfl ?_
        exact RAsked.bad (by unfold askE; rw [HV.out, HO.out]; rfl) (by unfold askE; rw [HV.out, HO.out]; simp) HE5.out
      · have hnz : ¬ (nl : Int) = 0 := by omega
        have ho : okB b = true := by rw [← okB_eq, ← hnl.out, HG.out]; simp; omega
        have HO := Lib.hid ho; clear ho
        go_wp2
        refine bodyPost_ret (v := .tuple #[v, .slice Al nl cl, .int .i64 0]) (by simp [results, Tryz.results130, go_sem]) rfl ?_
        exact ⟨_, _, by unfold askE; rw [HV.out, HO.out]; rfl, fun _ => ⟨HS2.out HG.out, HL.out⟩, HE5.out⟩
end Go.Proofs.YtkpengeaolcjhaaGreatDoor
/- The reference: Layer, Best, Worst. -/
namespace Go.Proofs.YtkpengeaolcjhaaGreatDoor
open Go.RowKit Go.Shelf
set_option maxRecDepth 100000

theorem askE_true {b : Bale} (hv : valid b = true) (e : Int) : askE b true e = askE b true 0 := by unfold askE; rw [hv]; rfl
end Go.Proofs.YtkpengeaolcjhaaGreatDoor
/- core.Dry and the reference's, Pays and the reference's. -/
namespace Go.Proofs.YtkpengeaolcjhaaGreatDoor
open Go.RowKit Go.Shelf
set_option maxRecDepth 100000
set_option linter.unusedSimpArgs false

/-- The lightest and the heaviest dry weight that can be. -/
def dryOf (l : List Int) : Span := ⟨(l[0]?).getD 0, (l[l.length - 1]?).getD 0⟩
def dryB (b : Bale) : Span := if askE b true 0 = 0 then dryOf (dries b) else ⟨0, 0⟩
theorem dries_pos {b : Bale} (h : askE b true 0 = 0) : 0 < (dries b).length := by
  have := (askE_zero' h).2
  unfold okB at this
  cases hd : dries b with
  | nil => rw [hd] at this; simp at this
  | cons x l => simp
theorem Sl.int {w : World} {b off k : Nat} {x : Int} (h : ∀ W, Ext w W → ∀ j u, (encI x)[j]? = some u → W.cell? ⟨b, off + k * 1 + j, none⟩ = some u) (W : World) (hW : Ext w W) : W.cell? ⟨b, off + k, none⟩ = some (.int .i64 x) := by
  simpa using h W hW 0 _ rfl

end Go.Proofs.YtkpengeaolcjhaaGreatDoor
/- core.Pays and the reference's. -/
namespace Go.Proofs.YtkpengeaolcjhaaGreatDoor
open Go.RowKit Go.Shelf
set_option maxRecDepth 100000
set_option linter.unusedSimpArgs false

def payOf (l : List Int) (r : Int) : Span := ⟨weight (dryOf l).lo r, weight (dryOf l).hi r⟩
def payB (b : Bale) (r : Int) : Span := if askE b (inB 0 200 r) 35 = 0 then payOf (dries b) r else ⟨0, 0⟩
theorem ok_pos {b : Bale} (h : okB b = true) : 0 < (dries b).length := by
  unfold okB at h
  cases hd : dries b with
  | nil => rw [hd] at h; simp at h
  | cons x l => simp
theorem dries_bd {b : Bale} {x : Int} (h : x ∈ dries b) : b.dry.lo ≤ x ∧ x ≤ b.dry.hi := by
  unfold dries driesTo at h
  simp only [List.mem_filter, List.mem_map, List.mem_range] at h
  obtain ⟨⟨i, hi, rfl⟩, _⟩ := h
  omega
end Go.Proofs.YtkpengeaolcjhaaGreatDoor
/- How damp a bale was: slices.Index at numbers, the place of a weighing, core.damp. -/
namespace Go.Proofs.YtkpengeaolcjhaaGreatDoor
open Go.RowKit Go.Shelf
set_option maxRecDepth 100000
set_option linter.unusedSimpArgs false

set_option maxHeartbeats 400000 in
theorem f84_any (l : List Int) (x : Int) (v : Value) (w : World) (hs : SlI w v l) :
    Calls Tryz.prog 84 #[v, .int .i64 x] w fun e w' => e = .returned (.int .i64 (idxF (fun y => decide (x = y)) l)) ∧ Ext w w' := by
  obtain ⟨A, n, c, rfl, hn, hlc, hcm⟩ := hs.form
  go_enter Tryz.func84, Tryz.ntmps84
  go_wp2
  go_loopg [5, 8] n (fun gg _ s8 wr => ∃ kk : Nat, kk ≤ n ∧ n - kk ≤ gg ∧ s8 = .int .i64 kk ∧ Aside (Ext w wr) ∧ Aside (∀ j y, j < kk → l[j]? = some y → decide (x = y) = false))
  case atStart => exact ⟨0, Nat.zero_le _, by omega, rfl, Ext.refl w, fun j y hj => absurd hj (Nat.not_lt_zero _)⟩
  case round =>
    obtain ⟨kk, hkk, hg, rfl, BW, FA⟩ := hrel
    by_cases hlt : kk < n
    · have hltz : (kk : Int) < (n : Int) := by omega
      obtain ⟨b, off, y, rfl, hx, hb, hcell⟩ := hs.at_ hlt
      have c0 := SlI.cell hcell BW.out
      have HX := Lib.hid hx; clear hx hcell hs
      by_cases hq : x = y
      · have HQ := Lib.hid (show decide (x = y) = true by simp [hq])
        go_wp2
        go_ret
        exact ⟨by rw [idxF_some _ l kk y HX.out HQ.out FA.out]; rfl, BW.out⟩
      · have HQ := Lib.hid (show decide (x = y) = false by simp [hq])
        go_wp2
        go_roundg (n - (kk + 1))
        case measure => omega
        case rel => exact ⟨kk + 1, by omega, by omega, rfl, BW.out, fun j z hj hz => by
          rcases Nat.lt_succ_iff_lt_or_eq.1 hj with h | rfl
          · exact FA.out j z h hz
          · rw [HX.out] at hz; cases hz; exact HQ.out⟩
    · have HE := Lib.hid (show kk = n by omega); clear hs
      go_wp2
      go_ret
      exact ⟨by rw [idxF_none _ l (fun x hx => by obtain ⟨j, hj⟩ := List.getElem?_of_mem hx; exact FA.out j x (by have := (List.getElem?_eq_some_iff.1 hj).1; have := HE.out; have := hn.out; omega) hj)]; rfl, BW.out⟩

/-- The place of a weighing. -/
def wIdx (b : Bale) (number : Int) : Int := idxF (fun x : Weigh => decide (x.number = number)) b.weighs
theorem wIdx_eq (b : Bale) (number : Int) : idxF (fun y => decide (number = y)) (b.weighs.map (·.number)) = wIdx b number := by
  unfold wIdx idxF
  rw [List.findIdx?_map]
  congr 1
  congr 1
  funext x
  simp [Function.comp, eq_comm]

def rsOf (x : Weigh) : List Int := (List.range (x.damp.hi - x.damp.lo + 1).toNat).map fun (i : Nat) => x.damp.lo + (i : Int)
def dLo (d : Int) (x : Weigh) : Int := ((rsOf x).find? fun r => decide (x.pounds ≤ weight d r)).getD 0
def dHi (d : Int) (x : Weigh) : Int := (((List.range (x.damp.hi - x.damp.lo + 1).toNat).map fun (i : Nat) => x.damp.hi - (i : Int)).find? fun r => decide (weight d r ≤ x.pounds)).getD 0
theorem mem_rs {x : Weigh} {r : Int} : r ∈ rsOf x ↔ x.damp.lo ≤ r ∧ r ≤ x.damp.hi := by
  unfold rsOf
  simp only [List.mem_map, List.mem_range]
  constructor
  · rintro ⟨i, hi, rfl⟩; omega
  · rintro ⟨h1, h2⟩; exact ⟨(r - x.damp.lo).toNat, by omega, by omega⟩
theorem find_at {n : Nat} {f : Nat → Int} {p : Int → Bool} {k : Nat} (hk : k < n) (h1 : p (f k) = true) (h2 : ∀ j, j < k → p (f j) = false) : ((List.range n).map f).find? p = some (f k) := by
  rw [List.find?_map, Option.map_eq_some_iff]
  refine ⟨k, ?_, rfl⟩
  rw [List.find?_range_eq_some]
  exact ⟨h1, by simpa using hk, fun j hj => by simp only [Function.comp]; rw [h2 j hj]; rfl⟩
/-- Found from below. -/
theorem dLo_of {d lo : Int} {x : Weigh} (h1 : x.damp.lo ≤ lo) (h2 : lo ≤ x.damp.hi) (h3 : x.pounds ≤ weight d lo) (h4 : ∀ r, x.damp.lo ≤ r → r < lo → weight d r < x.pounds) : dLo d x = lo := by
  unfold dLo rsOf
  have e : x.damp.lo + ((lo - x.damp.lo).toNat : Int) = lo := by omega
  rw [find_at (k := (lo - x.damp.lo).toNat) (by omega) (by rw [e]; simpa using h3) (fun j hj => by
    have := h4 (x.damp.lo + j) (by omega) (by omega)
    simp only [decide_eq_false_iff_not]
    omega), e]
  rfl
/-- Found from above. -/
theorem dHi_of {d hi : Int} {x : Weigh} (h1 : x.damp.lo ≤ hi) (h2 : hi ≤ x.damp.hi) (h3 : weight d hi ≤ x.pounds) (h4 : ∀ r, hi < r → r ≤ x.damp.hi → x.pounds < weight d r) : dHi d x = hi := by
  unfold dHi
  have e : x.damp.hi - ((x.damp.hi - hi).toNat : Int) = hi := by omega
  rw [find_at (k := (x.damp.hi - hi).toNat) (by omega) (by rw [e]; simpa using h3) (fun j hj => by
    have := h4 (x.damp.hi - j) (by omega) (by omega)
    simp only [decide_eq_false_iff_not]
    omega), e]
  rfl
end Go.Proofs.YtkpengeaolcjhaaGreatDoor
