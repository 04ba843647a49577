/- core.damp. -/
import Derived.Test.YtkpengeaolcjhaaDoorPkMlTellsCardG
namespace Go.Proofs.YtkpengeaolcjhaaDoor
open Go.RowKit Go.Shelf
set_option maxRecDepth 100000
set_option linter.unusedSimpArgs false

theorem ret_set2v {P : Program} {fn : Func} {R : Ending → World → Prop} {ex : Exit} {a : Act} {w1 : World} {g : Nat} {t : TypeId} {x0 x1 y0 y1 : Value} (hB : Blk w1 g t #[x0, x1])
    (h : ∀ W, (W.cell? ⟨g, 0, none⟩ = some y0 ∧ W.cell? ⟨g, 1, none⟩ = some y1) → w1.grownBy W (some g) → bodyPost P fn R ex a W) :
    bodyPost P fn R ex a ((w1.setCell ⟨g, 0, none⟩ y0).setCell ⟨g, 1, none⟩ y1) := ret_set2 hB h

set_option maxHeartbeats 2000000 in
theorem damp_any (d : Int) (x : Weigh) (w : World) (hd0 : 0 ≤ d) (hd1 : d ≤ 1000000) (hx0 : 0 ≤ x.damp.lo) (hx1 : x.damp.hi ≤ 1000) (hx2 : x.damp.lo ≤ x.damp.hi) (hc : could d x = true) :
    Calls Tryd.prog 92 #[.int .i64 d, valW x] w fun e w' => e = .returned (valS ⟨dLo d x, dHi d x⟩) ∧ Ext w w' := by
  have HC := Lib.hid (show weight d x.damp.lo ≤ x.pounds ∧ x.pounds ≤ weight d x.damp.hi by unfold could inB at hc; simpa using hc)
  clear hc
  go_enter Tryd.func92, Tryd.ntmps92
  dsimp only [valW]
  go_wp2
  go_loopg [] (x.damp.hi - x.damp.lo).toNat (fun gg wr => ∃ lo : Int, x.damp.lo ≤ lo ∧ lo ≤ x.damp.hi ∧ (x.damp.hi - lo).toNat ≤ gg ∧ Aside (∀ r, x.damp.lo ≤ r → r < lo → weight d r < x.pounds) ∧ Aside (Ext w wr) ∧
    Aside (Blk wr w.heap.size 141 #[.int .i64 x.number, .int .i64 x.pounds, .int .i64 x.damp.lo, .int .i64 x.damp.hi]) ∧ Aside (Blk wr (w.heap.size + 1) 55 #[.int .i64 0, .int .i64 0]) ∧ Aside (Blk wr (w.heap.size + 2) 55 #[.int .i64 lo, .int .i64 x.damp.hi]))
  case atStart => exact ⟨x.damp.lo, by omega, by omega, by omega, fun r h1 h2 => absurd h2 (by omega), ((Ext.al _ _).trans (Ext.al _ _)).trans (Ext.al _ _), ((Blk.at_ rfl).alloc _).alloc _, (Blk.at_ (by simp)).alloc _, Blk.at_ (by simp)⟩
  case round =>
    obtain ⟨lo, h1, h2, hgg, FA, EX, BX, BR, BL⟩ := hrel
    have m0 := fun W (h : Ext wr W) => (show W.cell? ⟨w.heap.size + 2, 0, none⟩ = some (.int .i64 lo) from (BL.out.ext h).cell 0)
    have m1 := fun W (h : Ext wr W) => (show W.cell? ⟨w.heap.size, 1, none⟩ = some (.int .i64 x.pounds) from (BX.out.ext h).cell 1)
    go_wp2
    refine wp_region_tame (fun W => Ext wr W) (fun W W' => Ext W W') (by kernel_rfl) 31 rfl (by decide +kernel) (Ext.refl _).drew ?_
    repeat (apply tame_q rfl; (intro ρ W hC hr hD; (obtain ⟨hrc, hrg, hrf, hrs⟩ := hr); (simp [go_sem] at hD); go_simp; first | exact ⟨⟨hC, Ext.refl _⟩, rfl⟩ | exact ⟨⟨hC, RS.refl _⟩, rfl⟩ | exact rfl); simp only [List.nil_append, List.cons_append])
    apply tame_q rfl
    · intro ρ W hC hr hD
      obtain ⟨hrc, hrg, hrf, hrs⟩ := hr
      simp [go_sem] at hD
      go_simp
      refine (f125_any d lo _ (by omega) (by omega) (by omega) (by omega)).mono ?_
      rintro e w' ⟨rfl, rfl⟩
      exact ⟨_, rfl, ⟨hC, Ext.refl _⟩, rfl⟩
    simp only [List.nil_append, List.cons_append]
    repeat (apply tame_q rfl; (intro ρ W hC hr hD; (obtain ⟨hrc, hrg, hrf, hrs⟩ := hr); (simp [go_sem] at hD); go_simp; first | exact ⟨⟨hC, Ext.refl _⟩, rfl⟩ | exact ⟨⟨hC, RS.refl _⟩, rfl⟩ | exact rfl); simp only [List.nil_append, List.cons_append])
    refine tame_end 31 rfl rfl (fun ρ W hC hr hF => ?_)
    obtain ⟨hrc, hrg, hrf, hrs⟩ := hr
    simp [go_sem] at hF
    apply frame_to
    · go_simp
      exact rfl
    clear hF hrs hrc hrg hrf m0 m1
    have BXW := Lib.hid (BX.out.ext hC)
    have BRW := Lib.hid (BR.out.ext hC)
    have BLW := Lib.hid (BL.out.ext hC)
    have EXW := Lib.hid (EX.out.trans hC)
    have t0 := BLW.out.cell 0
    have t1 := BLW.out.cell 1
    have tf := BLW.out.frozen
    have tl := BLW.out.lt
    simp at t0 t1
    clear hC
    by_cases hlt : weight d lo < x.pounds
    · have hlh : lo < x.damp.hi := by
        rcases Int.lt_or_le lo x.damp.hi with h | h
        · exact h
        · have : lo = x.damp.hi := by omega
          rw [this] at hlt; have := HC.out; omega
      go_wp2
      go_roundg (x.damp.hi - (lo + 1)).toNat
      case measure => omega
      case rel =>
        refine ⟨lo + 1, by omega, by omega, by omega, fun r h3 h4 => ?_, EXW.out.setCell (by dsimp only; omega) _, BXW.out.far (by dsimp only; omega) _, BRW.out.far (by dsimp only; omega) _, BLW.out.set_ 0 _⟩
        by_cases hrl : r = lo
        · rw [hrl]; exact hlt
        · exact FA.out r h3 (by omega)
    · have HLO := Lib.hid (dLo_of h1 h2 (Int.not_lt.1 hlt) FA.out)
      go_wp2
      go_loopg [] (x.damp.hi - x.damp.lo).toNat (fun gg wq => ∃ hi : Int, x.damp.lo ≤ hi ∧ hi ≤ x.damp.hi ∧ (hi - x.damp.lo).toNat ≤ gg ∧ Aside (∀ r, hi < r → r ≤ x.damp.hi → x.pounds < weight d r) ∧ Aside (Ext w wq) ∧
        Aside (Blk wq w.heap.size 141 #[.int .i64 x.number, .int .i64 x.pounds, .int .i64 x.damp.lo, .int .i64 x.damp.hi]) ∧ Aside (Blk wq (w.heap.size + 1) 55 #[.int .i64 0, .int .i64 0]) ∧ Aside (Blk wq (w.heap.size + 2) 55 #[.int .i64 lo, .int .i64 hi]))
      case atStart => exact ⟨x.damp.hi, by omega, by omega, by omega, fun r h1 h2 => absurd h2 (by omega), EXW.out, BXW.out, BRW.out, BLW.out⟩
      case round =>
        clear t0 t1 tf tl
        obtain ⟨hi, g1, g2, hgg2, FB, EX2, BX2, BR2, BL2⟩ := hrel
        have m0 := fun W (h : Ext wr W) => (show W.cell? ⟨w.heap.size + 2, 1, none⟩ = some (.int .i64 hi) from (BL2.out.ext h).cell 1)
        have m1 := fun W (h : Ext wr W) => (show W.cell? ⟨w.heap.size, 1, none⟩ = some (.int .i64 x.pounds) from (BX2.out.ext h).cell 1)
        go_wp2
        refine wp_region_tame (fun W => Ext wr W) (fun W W' => Ext W W') (by kernel_rfl) 31 rfl (by decide +kernel) (Ext.refl _).drew ?_
        repeat (apply tame_q rfl; (intro ρ W hC hr hD; (obtain ⟨hrc, hrg, hrf, hrs⟩ := hr); (simp [go_sem] at hD); go_simp; first | exact ⟨⟨hC, Ext.refl _⟩, rfl⟩ | exact ⟨⟨hC, RS.refl _⟩, rfl⟩ | exact rfl); simp only [List.nil_append, List.cons_append])
        apply tame_q rfl
        · intro ρ W hC hr hD
          obtain ⟨hrc, hrg, hrf, hrs⟩ := hr
          simp [go_sem] at hD
          go_simp
          refine (f125_any d hi _ (by omega) (by omega) (by omega) (by omega)).mono ?_
          rintro e w' ⟨rfl, rfl⟩
          exact ⟨_, rfl, ⟨hC, Ext.refl _⟩, rfl⟩
        simp only [List.nil_append, List.cons_append]
        repeat (apply tame_q rfl; (intro ρ W hC hr hD; (obtain ⟨hrc, hrg, hrf, hrs⟩ := hr); (simp [go_sem] at hD); go_simp; first | exact ⟨⟨hC, Ext.refl _⟩, rfl⟩ | exact ⟨⟨hC, RS.refl _⟩, rfl⟩ | exact rfl); simp only [List.nil_append, List.cons_append])
        refine tame_end 31 rfl rfl (fun ρ W hC hr hF => ?_)
        obtain ⟨hrc, hrg, hrf, hrs⟩ := hr
        simp [go_sem] at hF
        apply frame_to
        · go_simp
          exact rfl
        clear hF hrs hrc hrg hrf m0 m1
        have BXW2 := Lib.hid (BX2.out.ext hC)
        have BRW2 := Lib.hid (BR2.out.ext hC)
        have BLW2 := Lib.hid (BL2.out.ext hC)
        have EXW2 := Lib.hid (EX2.out.trans hC)
        have t0 := BLW2.out.cell 0
        have t1 := BLW2.out.cell 1
        have tf := BLW2.out.frozen
        have tl := BLW2.out.lt
        simp at t0 t1
        clear hC
        by_cases hgt : x.pounds < weight d hi
        · have hlh : x.damp.lo < hi := by
            rcases Int.lt_or_le x.damp.lo hi with h | h
            · exact h
            · have : hi = x.damp.lo := by omega
              rw [this] at hgt; have := HC.out; omega
          go_wp2
          go_roundg (hi - 1 - x.damp.lo).toNat
          case measure => omega
          case rel =>
            refine ⟨hi - 1, by omega, by omega, by omega, fun r h3 h4 => ?_, EXW2.out.setCell (by dsimp only; omega) _, BXW2.out.far (by dsimp only; omega) _, BRW2.out.far (by dsimp only; omega) _, BLW2.out.set_ 1 _⟩
            by_cases hrl : r = hi
            · rw [hrl]; exact hgt
            · exact FB.out r (by omega) h4
        · have HHI := Lib.hid (dHi_of g1 g2 (Int.not_lt.1 hgt) FB.out)
          have r0 := BRW2.out.cell 0
          have r1 := BRW2.out.cell 1
          have rf := BRW2.out.frozen
          have rl := BRW2.out.lt
          simp at r0 r1
          go_wp2
          refine ret_set2 BRW2.out fun W ⟨b0, b1⟩ hW => ?_
          refine bodyPost_ret (v := valS ⟨lo, hi⟩) (by simp [results, Tryd.results92, go_sem, b0, b1]) rfl ?_
          exact ⟨by rw [HLO.out, HHI.out], ext_grown EXW2.out hW (by omega)⟩
end Go.Proofs.YtkpengeaolcjhaaDoor
/- core.Wet. -/
namespace Go.Proofs.YtkpengeaolcjhaaDoor
open Go.RowKit Go.Shelf
set_option maxRecDepth 100000
set_option linter.unusedSimpArgs false

theorem idxF_pos {α : Type} {p : α → Bool} {l : List α} (h : 0 ≤ idxF p l) : ∃ (k : Nat) (x : α), idxF p l = (k : Int) ∧ l[k]? = some x ∧ p x = true := by
  unfold idxF at h ⊢
  cases hf : l.findIdx? p with
  | none => rw [hf] at h; simp at h
  | some k =>
    rw [List.findIdx?_eq_some_iff_getElem] at hf
    obtain ⟨hk, hp, _⟩ := hf
    exact ⟨k, l[k], rfl, List.getElem?_eq_getElem hk, hp⟩
theorem dries_could {b : Bale} {d : Int} {x : Weigh} (h : d ∈ dries b) (hx : x ∈ b.weighs) : could d x = true := by
  unfold dries driesTo at h
  simp only [List.mem_filter] at h
  exact List.all_eq_true.1 h.2 x hx
def wetOf (b : Bale) (i : Int) : Span := match b.weighs[i.toNat]? with | some x => ⟨dLo (dryOf (dries b)).hi x, dHi (dryOf (dries b)).lo x⟩ | none => ⟨0, 0⟩
def wetB (b : Bale) (number : Int) : Span := if askE b (decide (0 ≤ wIdx b number)) 6 = 0 then wetOf b (wIdx b number) else ⟨0, 0⟩

end Go.Proofs.YtkpengeaolcjhaaDoor
/- The reference's Wet. -/
namespace Go.Proofs.YtkpengeaolcjhaaDoor
open Go.RowKit Go.Shelf
set_option maxRecDepth 100000
set_option linter.unusedSimpArgs false

def hitStep (d : Int) (x : Weigh) (s : Span) (r : Int) : Span := if weight d r = x.pounds then ⟨min s.lo r, max s.hi r⟩ else s
def hitsTo (d : Int) (x : Weigh) (s : Span) : Nat → Span
  | 0 => s
  | k + 1 => hitStep d x (hitsTo d x s k) (x.damp.lo + (k : Int))
def wetFold (x : Weigh) (l : List Int) : Span := l.foldl (fun s d => hitsTo d x s (x.damp.hi - x.damp.lo + 1).toNat) ⟨x.damp.hi, x.damp.lo⟩
/-- What the reference tells of a weighing. -/
def rwetB (b : Bale) (number : Int) : Span := if askE b (decide (0 ≤ wIdx b number)) 6 = 0 then (match b.weighs[(wIdx b number).toNat]? with | some x => wetFold x (dries b) | none => ⟨0, 0⟩) else ⟨0, 0⟩

end Go.Proofs.YtkpengeaolcjhaaDoor
/- The plain law of dampness: what the program tells by the lightest and the heaviest dry weight is what the reference finds by trying all. -/
namespace Go.Proofs.YtkpengeaolcjhaaDoor
open Go.RowKit Go.Shelf
set_option linter.unusedSimpArgs false

theorem weight_step {d : Int} (r : Int) (h0 : 0 ≤ d) (h1 : d ≤ 1000) : weight d r ≤ weight d (r + 1) ∧ weight d (r + 1) ≤ weight d r + 1 := by
  unfold weight
  rw [show d * (1000 + (r + 1)) = d * (1000 + r) + d by rw [← Int.add_assoc, Int.mul_add d (1000 + r) 1]; omega]
  generalize d * (1000 + r) = p
  omega
theorem weight_le_d {d d' : Int} (r : Int) (h : d ≤ d') (hr : 0 ≤ r) : weight d r ≤ weight d' r := by
  unfold weight
  have := Int.mul_le_mul_of_nonneg_right h (show 0 ≤ 1000 + r by omega)
  omega
theorem weight_mono {d : Int} (h0 : 0 ≤ d) (h1 : d ≤ 1000) (r : Int) (k : Nat) : weight d r ≤ weight d (r + k) := by
  induction k with
  | zero => simp
  | succ k ih =>
    have := (weight_step (d := d) (r + k) h0 h1).1
    rw [show r + ((k + 1 : Nat) : Int) = r + k + 1 by omega]
    omega
theorem weight_mono' {d : Int} (h0 : 0 ≤ d) (h1 : d ≤ 1000) {r r' : Int} (h : r ≤ r') : weight d r ≤ weight d r' := by
  have := weight_mono h0 h1 r (r' - r).toNat
  rwa [show r + ((r' - r).toNat : Int) = r' by omega] at this

/-- A weighing, and a dry weight that can weigh so. -/
structure Fit (d : Int) (x : Weigh) : Prop where
  d0 : 0 ≤ d
  d1 : d ≤ 1000
  r0 : 0 ≤ x.damp.lo
  r1 : x.damp.lo ≤ x.damp.hi
  c : could d x = true
theorem Fit.lo {d : Int} {x : Weigh} (h : Fit d x) : weight d x.damp.lo ≤ x.pounds ∧ x.pounds ≤ weight d x.damp.hi := by
  have := h.c
  unfold could inB at this
  simpa using this
theorem lo_ex (d : Int) (x : Weigh) : ∀ k : Nat, x.damp.lo + k ≤ x.damp.hi → (∃ lo, x.damp.lo ≤ lo ∧ lo ≤ x.damp.lo + k ∧ x.pounds ≤ weight d lo ∧ ∀ r, x.damp.lo ≤ r → r < lo → weight d r < x.pounds) ∨ ∀ r, x.damp.lo ≤ r → r ≤ x.damp.lo + k → weight d r < x.pounds := by
  intro k
  induction k with
  | zero =>
    intro hk
    by_cases hp : x.pounds ≤ weight d x.damp.lo
    · exact .inl ⟨x.damp.lo, by omega, by omega, hp, fun r h1 h2 => by omega⟩
    · refine .inr fun r h1 h2 => ?_
      have : r = x.damp.lo := by simp at h2; omega
      rw [this]; omega
  | succ k ih =>
    intro hk
    rcases ih (by omega) with ⟨lo, h1, h2, h3, h4⟩ | hall
    · exact .inl ⟨lo, h1, by omega, h3, h4⟩
    · by_cases hp : x.pounds ≤ weight d (x.damp.lo + (k + 1 : Nat))
      · exact .inl ⟨_, by omega, by omega, hp, fun r h1 h2 => hall r h1 (by omega)⟩
      · refine .inr fun r h1 h2 => ?_
        by_cases hr : r = x.damp.lo + (k + 1 : Nat)
        · rw [hr]; omega
        · exact hall r h1 (by omega)
theorem dLo_spec {d : Int} {x : Weigh} (h : Fit d x) : x.damp.lo ≤ dLo d x ∧ dLo d x ≤ x.damp.hi ∧ weight d (dLo d x) = x.pounds ∧ ∀ r, x.damp.lo ≤ r → r < dLo d x → weight d r < x.pounds := by
  have hlo := h.lo
  have hr := h.r1
  rcases lo_ex d x (x.damp.hi - x.damp.lo).toNat (by omega) with ⟨lo, h1, h2, h3, h4⟩ | hall
  · have e := dLo_of (d := d) h1 (show lo ≤ x.damp.hi by omega) h3 h4
    rw [e]
    refine ⟨h1, by omega, ?_, h4⟩
    by_cases hl : lo = x.damp.lo
    · rw [hl] at h3 ⊢; omega
    · have h5 := h4 (lo - 1) (by omega) (by omega)
      have h6 := (weight_step (d := d) (lo - 1) h.d0 h.d1).2
      rw [show lo - 1 + 1 = lo by omega] at h6
      omega
  · have := hall x.damp.hi hr (by omega)
    omega
theorem hi_ex (d : Int) (x : Weigh) : ∀ k : Nat, x.damp.lo ≤ x.damp.hi - k → (∃ hi, x.damp.hi - k ≤ hi ∧ hi ≤ x.damp.hi ∧ weight d hi ≤ x.pounds ∧ ∀ r, hi < r → r ≤ x.damp.hi → x.pounds < weight d r) ∨ ∀ r, x.damp.hi - k ≤ r → r ≤ x.damp.hi → x.pounds < weight d r := by
  intro k
  induction k with
  | zero =>
    intro hk
    by_cases hp : weight d x.damp.hi ≤ x.pounds
    · exact .inl ⟨x.damp.hi, by omega, by omega, hp, fun r h1 h2 => by omega⟩
    · refine .inr fun r h1 h2 => ?_
      have : r = x.damp.hi := by simp at h1; omega
      rw [this]; omega
  | succ k ih =>
    intro hk
    rcases ih (by omega) with ⟨hi, h1, h2, h3, h4⟩ | hall
    · exact .inl ⟨hi, by omega, h2, h3, h4⟩
    · by_cases hp : weight d (x.damp.hi - (k + 1 : Nat)) ≤ x.pounds
      · exact .inl ⟨_, by omega, by omega, hp, fun r h1 h2 => hall r (by omega) h2⟩
      · refine .inr fun r h1 h2 => ?_
        by_cases hr : r = x.damp.hi - (k + 1 : Nat)
        · rw [hr]; omega
        · exact hall r (by omega) h2
theorem dHi_spec {d : Int} {x : Weigh} (h : Fit d x) : x.damp.lo ≤ dHi d x ∧ dHi d x ≤ x.damp.hi ∧ weight d (dHi d x) = x.pounds ∧ ∀ r, dHi d x < r → r ≤ x.damp.hi → x.pounds < weight d r := by
  have hlo := h.lo
  have hr := h.r1
  rcases hi_ex d x (x.damp.hi - x.damp.lo).toNat (by omega) with ⟨hi, h1, h2, h3, h4⟩ | hall
  · have e := dHi_of (d := d) (show x.damp.lo ≤ hi by omega) h2 h3 h4
    rw [e]
    refine ⟨by omega, h2, ?_, h4⟩
    by_cases hl : hi = x.damp.hi
    · rw [hl] at h3 ⊢; omega
    · have h5 := h4 (hi + 1) (by omega) (by omega)
      have h6 := (weight_step (d := d) hi h.d0 h.d1).2
      omega
  · have := hall x.damp.lo (by omega) hr
    omega
/-- Trying all of the dampness: the least and the most that fit. -/
theorem hitsTo_full {d : Int} {x : Weigh} (h : Fit d x) (s : Span) : hitsTo d x s (x.damp.hi - x.damp.lo + 1).toNat = ⟨min s.lo (dLo d x), max s.hi (dHi d x)⟩ := by
  obtain ⟨l1, l2, l3, l4⟩ := dLo_spec h
  obtain ⟨g1, g2, g3, g4⟩ := dHi_spec h
  have hLH : dLo d x ≤ dHi d x := by
    rcases Int.lt_or_le (dHi d x) (dLo d x) with hl | hl
    · have := g4 _ hl l2; omega
    · exact hl
  have key : ∀ k : Nat, x.damp.lo + k ≤ x.damp.hi + 1 → hitsTo d x s k = ⟨if x.damp.lo + k ≤ dLo d x then s.lo else min s.lo (dLo d x), if x.damp.lo + k ≤ dLo d x then s.hi else max s.hi (min (x.damp.lo + k - 1) (dHi d x))⟩ := by
    intro k
    induction k with
    | zero => intro _; simp [hitsTo, l1]
    | succ k ih =>
      intro hk
      rw [hitsTo, ih (by omega), hitStep]
      by_cases hb : x.damp.lo + k < dLo d x
      · have hw := l4 (x.damp.lo + k) (by omega) hb
        rw [if_neg (by omega), if_pos (by omega), if_pos (by omega), if_pos (by omega), if_pos (by omega)]
      · by_cases ha : dHi d x < x.damp.lo + k
        · have hw : weight d (x.damp.lo + k) ≠ x.pounds := by
            have := g4 _ ha (by omega)
            omega
          rw [if_neg hw]
          simp only [Span.mk.injEq, Int.min_def, Int.max_def]
          refine ⟨?_, ?_⟩ <;> (repeat' split) <;> omega
        · have hw : weight d (x.damp.lo + k) = x.pounds := by
            have h5 := weight_mono' h.d0 h.d1 (show dLo d x ≤ x.damp.lo + k by omega)
            have h6 := weight_mono' h.d0 h.d1 (show x.damp.lo + k ≤ dHi d x by omega)
            omega
          rw [if_pos hw]
          simp only [Span.mk.injEq]
          refine ⟨?_, ?_⟩ <;> (repeat' split) <;> omega
  rw [key _ (by omega)]
  rw [if_neg (by omega), if_neg (by omega)]
  congr 1
  omega
theorem dLo_anti {d d' : Int} {x : Weigh} (h : Fit d x) (h' : Fit d' x) (hd : d ≤ d') : dLo d' x ≤ dLo d x := by
  obtain ⟨l1, l2, l3, l4⟩ := dLo_spec h
  obtain ⟨g1, g2, g3, g4⟩ := dLo_spec h'
  rcases Int.lt_or_le (dLo d x) (dLo d' x) with hl | hl
  · have h5 := g4 _ l1 hl
    have h6 := weight_le_d (dLo d x) hd (by have := h.r0; omega)
    omega
  · exact hl
theorem dHi_anti {d d' : Int} {x : Weigh} (h : Fit d x) (h' : Fit d' x) (hd : d ≤ d') : dHi d' x ≤ dHi d x := by
  obtain ⟨l1, l2, l3, l4⟩ := dHi_spec h
  obtain ⟨g1, g2, g3, g4⟩ := dHi_spec h'
  rcases Int.lt_or_le (dHi d x) (dHi d' x) with hl | hl
  · have h5 := l4 _ hl g2
    have h6 := weight_le_d (dHi d' x) hd (by have := h.r0; omega)
    omega
  · exact hl
theorem wetFold_gen {x : Weigh} : ∀ (l : List Int) (s : Span), (∀ d ∈ l, Fit d x) → l.Pairwise (· ≤ ·) → l ≠ [] →
    l.foldl (fun s d => hitsTo d x s (x.damp.hi - x.damp.lo + 1).toNat) s = ⟨min s.lo (dLo (dryOf l).hi x), max s.hi (dHi (dryOf l).lo x)⟩
  | [], _, _, _, h => absurd rfl h
  | [d], s, hf, _, _ => by
    rw [List.foldl_cons, List.foldl_nil, hitsTo_full (hf d (by simp))]
    rfl
  | d :: e :: l, s, hf, hp, _ => by
    have hp' := List.pairwise_cons.1 hp
    rw [List.foldl_cons, wetFold_gen (e :: l) _ (fun c hc => hf c (List.mem_cons_of_mem _ hc)) hp'.2 (by simp), hitsTo_full (hf d (by simp))]
    have e1 : (dryOf (d :: e :: l)).hi = (dryOf (e :: l)).hi := by simp [dryOf]
    have e2 : (dryOf (d :: e :: l)).lo = d := by simp [dryOf]
    have e3 : (dryOf (e :: l)).lo = e := by simp [dryOf]
    have hm : (dryOf (e :: l)).hi ∈ (e :: l) := by
      unfold dryOf
      have : (e :: l).length - 1 < (e :: l).length := by simp
      rw [List.getElem?_eq_getElem this]
      exact List.getElem_mem _
    have h1 := dLo_anti (hf d (by simp)) (hf _ (List.mem_cons_of_mem _ hm)) (hp'.1 _ hm)
    have h2 := dHi_anti (hf d (by simp)) (hf e (by simp)) (hp'.1 e (by simp))
    rw [e1, e2, e3]
    simp only [Span.mk.injEq]
    omega
theorem dries_sorted (b : Bale) : (dries b).Pairwise (· ≤ ·) := by
  unfold dries driesTo
  refine List.Pairwise.filter _ ?_
  rw [List.pairwise_map]
  exact List.pairwise_lt_range.imp fun h => by omega
theorem bds_fit {b : Bale} (hb : Bds b) {d : Int} {x : Weigh} (hd : d ∈ dries b) (hx : x ∈ b.weighs) : Fit d x := by
  have h1 := dries_bd hd
  have h2 := hb.w x hx
  exact ⟨by have := hb.lo; omega, by have := hb.hi; omega, by omega, by omega, dries_could hd hx⟩
theorem rwet_eq (b : Bale) (number : Int) : rwetB b number = wetB b number := by
  unfold rwetB wetB
  split
  · rename_i hz
    obtain ⟨h1, h2, h3⟩ := askE_zero hz (by decide)
    unfold wetOf
    cases hx : b.weighs[(wIdx b number).toNat]? with
    | none => rfl
    | some x =>
      have hb := valid_bds h1
      have hm := List.mem_of_getElem? hx
      have hpos := ok_pos h3
      have hne : dries b ≠ [] := by intro h; rw [h] at hpos; simp at hpos
      show wetFold x (dries b) = ⟨dLo (dryOf (dries b)).hi x, dHi (dryOf (dries b)).lo x⟩
      unfold wetFold
      rw [wetFold_gen (dries b) _ (fun d hd => bds_fit hb hd hm) (dries_sorted b) hne]
      have m1 : (dryOf (dries b)).hi ∈ dries b := by
        unfold dryOf
        rw [List.getElem?_eq_getElem (show (dries b).length - 1 < (dries b).length by omega)]
        exact List.getElem_mem _
      have m2 : (dryOf (dries b)).lo ∈ dries b := by
        unfold dryOf
        rw [List.getElem?_eq_getElem hpos]
        exact List.getElem_mem _
      have h5 := dLo_spec (bds_fit hb m1 hm)
      have h6 := dHi_spec (bds_fit hb m2 hm)
      simp only [Span.mk.injEq]
      omega
  · rfl
end Go.Proofs.YtkpengeaolcjhaaDoor
/- core.Known and the reference's. -/
namespace Go.Proofs.YtkpengeaolcjhaaDoor
open Go.RowKit Go.Shelf
set_option maxRecDepth 100000
set_option linter.unusedSimpArgs false

def knownOf (s : Span) (E damp : Int) : Int := if E = 0 then (if damp < s.lo then 2 else if damp < s.hi then 1 else 0) else 0

end Go.Proofs.YtkpengeaolcjhaaDoor
