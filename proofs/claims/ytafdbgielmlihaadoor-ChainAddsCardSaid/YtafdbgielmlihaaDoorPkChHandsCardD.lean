/- The law's spoil: it writes into its own memory alone. -/
import Derived.Test.YtafdbgielmlihaaDoorPkChTellsCardG
namespace Go.Proofs.YtafdbgielmlihaaDoor
open Go.RowKit Go.Shelf Go.Lib
set_option maxRecDepth 100000
set_option linter.unusedSimpArgs false

theorem row_cellN {w : World} {base g n cap sz : Nat} {e : TypeId} {xs : List Value} (h : w.ownsRow base e sz (.slice (some ⟨g, 0, none⟩) n cap) n xs) {k : Nat} (hk : k < n * sz) : ∃ u, w.cell? ⟨g, k, none⟩ = some u := by
  have hl : k < xs.length := by rw [h.1]; exact hk
  refine ⟨xs[k], ?_⟩
  have := World.ownsRow.cells h (g := g) rfl k _ (List.getElem?_eq_getElem hl)
  simpa [Addr.add_lit] using this

set_option maxHeartbeats 1000000 in
theorem spoilC_any (c : Chn) (base : Nat) (hv sv : Value) (w : World) (hh : Own encI 3 1 w base hv c.houses) (hs : Own encL 68 5 w base sv c.sales) (hl : c.houses.length ≤ 1000) (hl2 : c.sales.length ≤ 1000) (top : Nat) (ht : ∀ g, hv.ownBlock = some g → g < top) (ht2 : ∀ g, sv.ownBlock = some g → g < top) :
    Calls Tryd.prog 50 #[valC hv sv] w fun e w' => (∃ v, e = .returned v) ∧ Gap base top w w' := by
  have HD := Lib.hid hh
  have HW := Lib.hid hs
  obtain ⟨A, n, cp, rfl, hn, hlc, hcm⟩ := (show SlI w hv c.houses from hh.sl (fun _ => rfl)).form
  obtain ⟨A2, n2, cp2, rfl, hn2, hlc2, hcm2⟩ := (show SlL w sv c.sales from hs.sl (fun _ => rfl)).form
  have HNN := Lib.hid (show n ≤ 1000 ∧ n2 ≤ 1000 by have := hn.out; have := hn2.out; omega)
  have HT1 := Lib.hid ht; have HT2 := Lib.hid ht2
  clear hh hs hl hl2 ht ht2
  go_enter Tryd.func50, Tryd.ntmps50
  have HB := Lib.hid (show Blk (w.alloc (.cells #[.slice A n cp, .slice A2 n2 cp2] 25)) w.heap.size 25 #[.slice A n cp, .slice A2 n2 cp2] from Blk.new _ _ _)
  go_wp2
  go_loopg [2, 7] n (fun gg s2 s7 wr => ∃ j : Nat, j ≤ n ∧ n - j ≤ gg ∧ s7 = .int .i64 (j : Int) ∧ Aside (∃ xs, wr.ownsRow base 3 1 (.slice A n cp) n xs) ∧ Aside (Own encL 68 5 wr base (.slice A2 n2 cp2) c.sales) ∧ Aside (Blk wr w.heap.size 25 #[.slice A n cp, .slice A2 n2 cp2]) ∧ Aside (Gap base top w wr))
  case atStart => exact ⟨0, by omega, by omega, rfl, ⟨_, (by have h := HD.out.alloc (.cells #[.slice A n cp, .slice A2 n2 cp2] 25); unfold Own at h; rw [← hn.out] at h; exact h)⟩, HW.out.alloc _, HB.out, Gap.of_ext (Ext.al _ _)⟩
  case round =>
    obtain ⟨j, hj, hgg, rfl, OD, OW, BX, BW⟩ := hrel
    have x4 := BX.out.c2
    by_cases hjn : j < n
    · have hjz : (j : Int) < (n : Int) := by omega
      obtain ⟨xs, hrow⟩ := OD.out
      rcases id hrow.2 with ⟨h2, -⟩ | ⟨g, cap, cur, e1, hbg, hh, -⟩
      · injection h2 with _ h2 _
        omega
      · injection e1 with e1 _ e3
        subst e1 e3
        have HROW := Lib.hid hrow; have HH := Lib.hid hh; have HGT := Lib.hid (HT1.out g rfl)
        obtain ⟨u, hu⟩ := row_cellN hrow (k := j) (by omega)
        have hfz := row_frozen hrow j
        have HNE := Lib.hid (show g ≠ w.heap.size from fun e => by
          have := BX.out
          unfold Blk at this
          rw [← e, hh] at this
          injection this with this
          injection this with _ this _
          exact absurd this (by decide))
        clear hrow hh OD
        go_wp2
        go_roundg (n - (j + 1))
        case measure => omega
        case rel => exact ⟨j + 1, by omega, by omega, by simp, ⟨_, own_cellset HROW.out⟩, own_off OW.out HH.out (by decide) (grown_set (World.grownBy.refl _ _) (p := ⟨g, j, none⟩) (.inl rfl) _), BX.out.grown (grown_set (World.grownBy.refl _ (some g)) (p := ⟨g, j, none⟩) (.inl rfl) _) (fun e => by injection e with e; exact HNE.out e.symm), BW.out.setCell hbg HGT.out _⟩
    · obtain ⟨wo, hwo⟩ : ∃ wo : World, wo = wr := ⟨_, rfl⟩
      subst hwo
      go_wp2
      go_loopg [3, 18] n2 (fun gg s3 s18 wr => ∃ j : Nat, j ≤ n2 ∧ n2 - j ≤ gg ∧ s18 = .int .i64 (j : Int) ∧ Aside (∃ xs, wr.ownsRow base 68 5 (.slice A2 n2 cp2) n2 xs) ∧ Aside (Blk wr w.heap.size 25 #[.slice A n cp, .slice A2 n2 cp2]) ∧ Aside (Gap base top w wr))
      case atStart => exact ⟨0, by omega, by omega, rfl, ⟨_, (by have h := OW.out; unfold Own at h; rw [← hn2.out] at h; exact h)⟩, BX.out, BW.out⟩
      case round =>
        obtain ⟨j, hj, hgg, rfl, OD, BX, BW⟩ := hrel
        have x5 := BX.out.c2
        by_cases hjn : j < n2
        · have hjz : (j : Int) < (n2 : Int) := by omega
          obtain ⟨xs, hrow⟩ := OD.out
          rcases id hrow.2 with ⟨h2, -⟩ | ⟨g, cap, cur, e1, hbg, hh, -⟩
          · injection h2 with _ h2 _
            omega
          · injection e1 with e1 _ e3
            subst e1 e3
            have HROW := Lib.hid hrow; have HH := Lib.hid hh; have HGT := Lib.hid (HT2.out g rfl)
            obtain ⟨u, hu⟩ := row_cellN hrow (k := j * 5) (by omega)
            have hfz := row_frozen hrow (j * 5)
            have HNE := Lib.hid (show g ≠ w.heap.size from fun e => by
              have := BX.out
              unfold Blk at this
              rw [← e, hh] at this
              injection this with this
              injection this with _ this _
              exact absurd this (by decide))
            clear hrow hh OD
            go_wp2
            go_roundg (n2 - (j + 1))
            case measure => omega
            case rel => exact ⟨j + 1, by omega, by omega, by simp, ⟨_, own_cellset HROW.out⟩, BX.out.grown (grown_set (World.grownBy.refl _ (some g)) (p := ⟨g, j * 5, none⟩) (.inl rfl) _) (fun e => by injection e with e; exact HNE.out e.symm), BW.out.setCell hbg HGT.out _⟩
        · go_wp2
          refine bodyPost_end (results_none rfl _ _ _) rfl ?_
          exact ⟨⟨_, rfl⟩, BW.out⟩
end Go.Proofs.YtafdbgielmlihaaDoor
