/- The reference's many: how many kinds, and which. -/
import Derived.Test.YtcoiahjehlplfaaDoorRKinds
import Derived.Test.YtcoiahjehlplfaaDoorTameM
namespace Go.Proofs.YtcoiahjehlplfaaDoor
open Go.RowKit Go.Shelf Go.Lib
set_option maxRecDepth 100000
set_option linter.unusedSimpArgs false

def S4.flag (s : S4) : Nat → Bool
  | 1 => s.a
  | 2 => s.b
  | 3 => s.c
  | 4 => s.d
  | _ => false
def S4.upTo (s : S4) : Nat → Nat
  | 0 => 0
  | k + 1 => s.upTo k + (if s.flag k then 1 else 0)
theorem S4.upTo_le (s : S4) : ∀ k, s.upTo k ≤ k
  | 0 => Nat.le_refl _
  | k + 1 => by have := S4.upTo_le s k; unfold S4.upTo; split <;> omega
theorem S4.upTo5 (s : S4) : s.upTo 5 = s.num := by
  obtain ⟨a, b, c, d⟩ := s
  cases a <;> cases b <;> cases c <;> cases d <;> rfl
theorem flagsV_at (s : S4) {k : Nat} (h : k < 5) : (flagsV s)[k]? = some (.bool (s.flag k)) := by
  obtain rfl | rfl | rfl | rfl | rfl : k = 0 ∨ k = 1 ∨ k = 2 ∨ k = 3 ∨ k = 4 := by omega
  all_goals rfl

theorem idx_flag (s : S4) {k : Nat} (h : k < 5) (W : World) : (Instr.index 108 (.agg #[.bool false, .bool s.a, .bool s.b, .bool s.c, .bool s.d]) (.int .i64 (k : Int))).run Tryd.prog W = .ok (.bool (s.flag k)) W := by
  obtain rfl | rfl | rfl | rfl | rfl : k = 0 ∨ k = 1 ∨ k = 2 ∨ k = 3 ∨ k = 4 := by omega
  all_goals rfl
abbrev set5 (W : World) (g : Nat) (y0 y1 y2 y3 y4 : Value) : World :=
  ((((W.setCell ⟨g, 0, none⟩ y0).setCell ⟨g, 1, none⟩ y1).setCell ⟨g, 2, none⟩ y2).setCell ⟨g, 3, none⟩ y3).setCell ⟨g, 4, none⟩ y4
theorem Blk.set5 {W : World} {g : Nat} {t : TypeId} {x0 x1 x2 x3 x4 : Value} (h : Blk W g t #[x0, x1, x2, x3, x4]) (y0 y1 y2 y3 y4 : Value) : Blk (set5 W g y0 y1 y2 y3 y4) g t #[y0, y1, y2, y3, y4] := by
  have := ((((h.set_ 0 y0).set_ 1 y1).set_ 2 y2).set_ 3 y3).set_ 4 y4
  simpa using this
theorem grown_set5 (W : World) (g : Nat) (y0 y1 y2 y3 y4 : Value) : W.grownBy (set5 W g y0 y1 y2 y3 y4) (some g) :=
  grown_set (grown_set (grown_set (grown_set (grown_set (World.grownBy.refl _ _) (p := ⟨g, 0, none⟩) (.inl rfl) y0) (p := ⟨g, 1, none⟩) (.inl rfl) y1) (p := ⟨g, 2, none⟩) (.inl rfl) y2) (p := ⟨g, 3, none⟩) (.inl rfl) y3) (p := ⟨g, 4, none⟩) (.inl rfl) y4
theorem ret_set5 {P : Program} {fn : Func} {R : Ending → World → Prop} {ex : Exit} {a : Act} {w1 : World} {g : Nat} {t : TypeId} {x0 x1 x2 x3 x4 y0 y1 y2 y3 y4 : Value} (hB : Blk w1 g t #[x0, x1, x2, x3, x4])
    (h : ∀ W, (W.cell? ⟨g, 0, none⟩ = some y0 ∧ W.cell? ⟨g, 1, none⟩ = some y1 ∧ W.cell? ⟨g, 2, none⟩ = some y2 ∧ W.cell? ⟨g, 3, none⟩ = some y3 ∧ W.cell? ⟨g, 4, none⟩ = some y4) → w1.grownBy W (some g) → bodyPost P fn R ex a W) :
    bodyPost P fn R ex a (((((w1.setCell ⟨g, 0, none⟩ y0).setCell ⟨g, 1, none⟩ y1).setCell ⟨g, 2, none⟩ y2).setCell ⟨g, 3, none⟩ y3).setCell ⟨g, 4, none⟩ y4) := by
  have K := hB.set5 y0 y1 y2 y3 y4
  exact h _ ⟨K.cell 0, K.cell 1, K.cell 2, K.cell 3, K.cell 4⟩ (grown_set5 ..)
theorem ext_grown5 {w w1 W : World} {g : Nat} (h : Ext w w1) (k : w1.grownBy W (some g)) (hg : w.heap.size ≤ g) : Ext w W :=
  ⟨k.os.trans h.os, k.tape.trans h.tape, k.output.trans h.output, Nat.le_trans h.size k.size, fun i hi => (k.block i (Nat.lt_of_lt_of_le hi h.size) (by intro e; injection e with e; omega)).trans (h.block i hi)⟩

set_option maxHeartbeats 4000000 in
theorem many_any {sp : List Span} {bb off cs : Nat} (w : World) (hsp : sp.length ≤ 1000) (h0 : 0 < sp.length) (hbd : ∀ x ∈ sp, 1 ≤ x.lo ∧ x.lo ≤ 1000 ∧ x.hi ≤ 9) (hs : SlS w (.slice (some ⟨bb, off, none⟩) sp.length cs) sp) :
    Calls Tryd.prog 74 #[.slice (some ⟨bb, off, none⟩) sp.length cs] w fun e W' => e = .returned (.tuple #[.int .i64 ((rk S4.none (exts [] (zOf sp))).num : Nat), .agg (flagsV (rk S4.none (exts [] (zOf sp))))]) ∧ Ext w W' := by
  have HS := Lib.hid hs; have HSP := Lib.hid hsp; have H0 := Lib.hid h0; have HBD := Lib.hid hbd
  obtain ⟨b, o, x, e1, hx, hb, hc⟩ := hs.at_ h0
  injection e1 with e1; injection e1 with e1 e2; subst e1 e2
  have hbb : bb ≠ w.heap.size + 1 := by omega
  have HBB := Lib.hid hbb
  clear hs hsp h0 hbd hx hc
  generalize hst : rk S4.none (exts [] (zOf sp)) = s
  have HST := Lib.hid hst; clear hst
  go_enter Tryd.func74, Tryd.ntmps74
  go_wp2_with fail
  have hB : Blk ((w.alloc (.cells #[.bool false, .bool false, .bool false, .bool false, .bool false] 108)).alloc (.cells #[.bool false, .bool false, .bool false, .bool false, .bool false] 108)) (w.heap.size + 1) 108 (flagsV S4.none) := by
    refine Blk.at_ ?_
    show _ = (w.heap.push _).size
    simp
  have hB2 : Blk ((w.alloc (.cells #[.bool false, .bool false, .bool false, .bool false, .bool false] 108)).alloc (.cells #[.bool false, .bool false, .bool false, .bool false, .bool false] 108)) w.heap.size 108 (flagsV S4.none) := (Blk.new _ _ _).alloc _
  have hE : Ext w ((w.alloc (.cells #[.bool false, .bool false, .bool false, .bool false, .bool false] 108)).alloc (.cells #[.bool false, .bool false, .bool false, .bool false, .bool false] 108)) := (Ext.al _ _).trans (Ext.al _ _)
  have hnil : ∀ W, SlI W (.slice none ([] : List Int).length 0) [] := fun W => ⟨_, _, rfl, by simp, by simp [maxLen], by simp⟩
  generalize hW : ((w.alloc (.cells #[.bool false, .bool false, .bool false, .bool false, .bool false] 108)).alloc (.cells #[.bool false, .bool false, .bool false, .bool false, .bool false] 108)) = W at hB hB2 hE ⊢
  have HW := Lib.hid hW; clear hW
  have HB0 := Lib.hid hB; have HE0 := Lib.hid hE; have HB2 := Lib.hid hB2; clear hB hE hB2
  refine (rkinds_any (ob := w.heap.size + 1) HSP.out HBD.out HBB.out sp.length [] none 0 S4.none W (by simp) H0.out (hnil W) (by simp) (HS.out.ext HE0.out) (by simp) HB0.out).mono ?_
  rintro e w' ⟨⟨v, rfl⟩, g1, g2⟩
  clear hnil
  rw [List.length_nil, List.drop_zero, HST.out] at g2
  have HB := Lib.hid g2
  have HB3 := Lib.hid (HB2.out.grown g1 (by simp))
  have HEW := Lib.hid (ext_grown5 HE0.out g1 (by omega))
  have b0 := HB.out.cell 0
  have b1 := HB.out.cell 1
  have b2 := HB.out.cell 2
  have b3 := HB.out.cell 3
  have b4 := HB.out.cell 4
  simp at b0 b1 b2 b3 b4
  clear g1 g2
  show _
  dsimp only
  go_wp2
  go_loopg [5, 7, 11] 5 (fun gg s5 _ s11 wr => ∃ q : Nat, q ≤ 5 ∧ 5 - q ≤ gg ∧ s11 = .int .i64 q ∧ s5 = .int .i64 ((s.upTo q : Nat) : Int) ∧ Aside (Ext w' wr))
  case atStart => exact ⟨0, by omega, by omega, rfl, rfl, Ext.refl _⟩
  case round =>
    obtain ⟨q, hq, hgg, rfl, rfl, HE⟩ := hrel
    by_cases hq5 : q < 5
    · have hqz : (q : Int) < 5 := by omega
      have HUP := Lib.hid (show s.upTo (q + 1) = s.upTo q + (if s.flag q then 1 else 0) from rfl)
      have hup := S4.upTo_le s q
      have hfl := idx_flag s hq5
      cases hf : s.flag q
      · rw [hf] at hfl
        go_wp2
        go_roundg (5 - (q + 1))
        case measure => omega
        case rel => exact ⟨q + 1, by omega, by omega, by simp, by rw [HUP.out, hf]; simp, HE.out⟩
      · rw [hf] at hfl
        go_wp2
        go_roundg (5 - (q + 1))
        case measure => omega
        case rel => exact ⟨q + 1, by omega, by omega, by simp, by rw [HUP.out, hf]; simp, HE.out⟩
    · have hqe : q = 5 := by omega
      subst hqe
      go_wp2
      have HBQ := Lib.hid (HB.out.ext HE.out); have HB3Q := Lib.hid (HB3.out.ext HE.out)
      have HEQ := Lib.hid (HEW.out.trans HE.out)
      clear b0 b1 b2 b3 b4
      have hx : ∀ i u, (flagsV s)[i]? = some u → ∀ W, Ext wr W → W.cell? ⟨w.heap.size + 1, i, none⟩ = some u := fun i u hu W hC => ((HBQ.out.ext hC).cell i).trans hu
      have k0 := hx 0 _ rfl; have k1 := hx 1 _ rfl; have k2 := hx 2 _ rfl; have k3 := hx 3 _ rfl; have k4 := hx 4 _ rfl
      clear hx
      refine wp_region_tame_cut (fun W => Ext wr W) (fun W W' => Ext W W') (by kernel_rfl) 20 rfl _ rfl (by decide +kernel) (by decide +kernel) (by decide +kernel) rfl (Ext.refl _).drew ?_
      simp only [List.dropLast]
      repeat (apply tame_q rfl; (intro ρ W hC hr hD; (obtain ⟨hrc, hrg, hrf, hrs⟩ := hr); (simp [go_sem] at hD); go_simp; first | exact ⟨⟨hC, Ext.refl _⟩, rfl⟩ | exact ⟨⟨hC, RS.refl _⟩, rfl⟩ | exact rfl); simp only [List.nil_append, List.cons_append])
      refine tame_end 20 rfl rfl (fun ρ W hC hr hF => ?_)
      obtain ⟨hrc, hrg, hrf, hrs⟩ := hr
      simp [go_sem] at hF
      apply frame_to
      · go_simp
        exact rfl
      clear hF hrs hrc hrg hrf k0 k1 k2 k3 k4
      have HBW := Lib.hid (HB3Q.out.ext hC)
      have HEC := Lib.hid (HEQ.out.trans hC)
      have t0 := HBW.out.cell 0
      have t1 := HBW.out.cell 1
      have t2 := HBW.out.cell 2
      have t3 := HBW.out.cell 3
      have t4 := HBW.out.cell 4
      have tf := HBW.out.frozen
      have tl := HBW.out.lt
      simp at t0 t1 t2 t3 t4
      clear hC
      go_wp2
      refine ret_set5 HBW.out fun W ⟨b0, b1, b2, b3, b4⟩ hW => ?_
      refine bodyPost_ret (v := .tuple #[.int .i64 ((s.upTo 5 : Nat) : Int), .agg (flagsV s)]) (by simp [results, Tryd.results74, go_sem, b0, b1, b2, b3, b4]) rfl ?_
      exact ⟨by rw [S4.upTo5], ext_grown5 HEC.out hW (Nat.le_refl _)⟩
end Go.Proofs.YtcoiahjehlplfaaDoor
