/- core.Can, Layer, ends, Best, Worst. -/
import Derived.Test.YtkpengeaolcjhaaGreatDoorPkMlBestCardC
import Derived.Handy
import Derived.Test.YtkpengeaolcjhaaGreatDoorPkMlBestCardB
namespace Go.Proofs.YtkpengeaolcjhaaGreatDoor
open Go.RowKit Go.Shelf
set_option maxRecDepth 100000

theorem ret_set2 {P : Program} {fn : Func} {R : Ending → World → Prop} {ex : Exit} {a : Act} {w1 : World} {g : Nat} {t : TypeId} {x0 x1 y0 y1 : Value} (hB : Blk w1 g t #[x0, x1])
    (h : ∀ W, (W.cell? ⟨g, 0, none⟩ = some y0 ∧ W.cell? ⟨g, 1, none⟩ = some y1) → w1.grownBy W (some g) → bodyPost P fn R ex a W) :
    bodyPost P fn R ex a ((w1.setCell ⟨g, 0, none⟩ y0).setCell ⟨g, 1, none⟩ y1) :=
  have H := (hB.set_ 0 y0).set_ 1 y1
  h _ ⟨H.cell 0, H.cell 1⟩ (grown_set (grown_set (World.grownBy.refl _ _) (p := ⟨g, 0, none⟩) (.inl rfl) y0) (p := ⟨g, 1, none⟩) (.inl rfl) y1)
theorem askE_zero {b : Bale} {r : Bool} {e : Int} (h : askE b r e = 0) (he : e ≠ 0) : valid b = true ∧ r = true ∧ okB b = true := by
  unfold askE at h
  split at h
  · split at h
    · split at h
      · exact ⟨‹_›, ‹_›, ‹_›⟩
      · cases h
    · exact absurd h he
  · cases h
theorem spans_len (b : Bale) : (spans b).length = b.layers.toNat := by unfold spans; exact spansTo_len _ _

end Go.Proofs.YtkpengeaolcjhaaGreatDoor
/- The reference: True, asked, Can, Layer, Best, Worst. -/
namespace Go.Proofs.YtkpengeaolcjhaaGreatDoor
open Go.RowKit Go.Shelf
set_option maxRecDepth 100000

def RAsked (b : Bale) (w : World) (e : Ending) (w' : World) : Prop :=
  ∃ sv lv, e = .returned (.tuple #[sv, lv, .int .i64 (askE b true 0)]) ∧ (askE b true 0 = 0 → SlS w' sv (spans b) ∧ SlI w' lv (dries b)) ∧ Ext w w'
theorem RAsked.bad {b : Bale} {w w' : World} {E : Int} (hE : E = askE b true 0) (h0 : askE b true 0 ≠ 0) (h : Ext w w') : RAsked b w (.returned (.tuple #[.slice none 0 0, .slice none 0 0, .int .i64 E])) w' := by
  subst hE; exact ⟨_, _, rfl, fun h => absurd h h0, h⟩
end Go.Proofs.YtkpengeaolcjhaaGreatDoor
/- core.Dry and the reference's, Pays and the reference's. -/
namespace Go.Proofs.YtkpengeaolcjhaaGreatDoor
open Go.RowKit Go.Shelf
set_option maxRecDepth 100000
set_option linter.unusedSimpArgs false

theorem Sl.int {w : World} {b off k : Nat} {x : Int} (h : ∀ W, Ext w W → ∀ j u, (encI x)[j]? = some u → W.cell? ⟨b, off + k * 1 + j, none⟩ = some u) (W : World) (hW : Ext w W) : W.cell? ⟨b, off + k, none⟩ = some (.int .i64 x) := by
  simpa using h W hW 0 _ rfl

end Go.Proofs.YtkpengeaolcjhaaGreatDoor
/- How damp a bale was: slices.Index at numbers, the place of a weighing, core.damp. -/
namespace Go.Proofs.YtkpengeaolcjhaaGreatDoor
open Go.RowKit Go.Shelf
set_option maxRecDepth 100000
set_option linter.unusedSimpArgs false

set_option maxHeartbeats 400000 in
theorem f84_any (l : List Int) (x : Int) (v : Value) (w : World) (hs : SlI w v l) :
    Calls Tryz.prog 84 #[v, .int .i64 x] w fun e w' => e = .returned (.int .i64 (idxF (fun y => decide (x = y)) l)) ∧ Ext w w' := by
  obtain ⟨A, n, c, rfl, hn, hlc, hcm⟩ := hs.form
  go_enter Tryz.func84, Tryz.ntmps84
  go_wp2
  go_loopg [5, 8] n (fun gg _ s8 wr => ∃ kk : Nat, kk ≤ n ∧ n - kk ≤ gg ∧ s8 = .int .i64 kk ∧ Aside (Ext w wr) ∧ Aside (∀ j y, j < kk → l[j]? = some y → decide (x = y) = false))
  case atStart => exact ⟨0, Nat.zero_le _, by omega, rfl, Ext.refl w, fun j y hj => absurd hj (Nat.not_lt_zero _)⟩
  case round =>
    obtain ⟨kk, hkk, hg, rfl, BW, FA⟩ := hrel
    by_cases hlt : kk < n
    · have hltz : (kk : Int) < (n : Int) := by omega
      obtain ⟨b, off, y, rfl, hx, hb, hcell⟩ := hs.at_ hlt
      have c0 := SlI.cell hcell BW.out
      have HX := Lib.hid hx; clear hx hcell hs
      by_cases hq : x = y
      · have HQ := Lib.hid (show decide (x = y) = true by simp [hq])
        go_wp2
        go_ret
        exact ⟨by rw [idxF_some _ l kk y HX.out HQ.out FA.out]; rfl, BW.out⟩
      · have HQ := Lib.hid (show decide (x = y) = false by simp [hq])
        go_wp2
        go_roundg (n - (kk + 1))
        case measure => omega
        case rel => exact ⟨kk + 1, by omega, by omega, rfl, BW.out, fun j z hj hz => by
          rcases Nat.lt_succ_iff_lt_or_eq.1 hj with h | rfl
          · exact FA.out j z h hz
          · rw [HX.out] at hz; cases hz; exact HQ.out⟩
    · have HE := Lib.hid (show kk = n by omega); clear hs
      go_wp2
      go_ret
      exact ⟨by rw [idxF_none _ l (fun x hx => by obtain ⟨j, hj⟩ := List.getElem?_of_mem hx; exact FA.out j x (by have := (List.getElem?_eq_some_iff.1 hj).1; have := HE.out; have := hn.out; omega) hj)]; rfl, BW.out⟩

end Go.Proofs.YtkpengeaolcjhaaGreatDoor
