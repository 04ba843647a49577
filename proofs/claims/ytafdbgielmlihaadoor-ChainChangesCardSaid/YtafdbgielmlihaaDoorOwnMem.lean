/- Words for memory that a call makes itself, of whatever element type: rows that are written into, cut short, cleared; what turns and what does not. -/
import Derived.Test.YtafdbgielmlihaaDoorCopy
namespace Go.Proofs.YtafdbgielmlihaaDoor
open Go.RowKit Go.Shelf Go.Lib
set_option maxRecDepth 100000
set_option linter.unusedSimpArgs false

theorem is_cells {W : World} {b i : Nat} {v : Value} (h : W.cell? ⟨b, i, none⟩ = some v) : b < W.heap.size ∧ ∃ c t f, W.heap[b]? = some (.cells c t f) := by
  unfold World.cell? at h
  split at h
  · rename_i c t f hb
    exact ⟨(Array.getElem?_eq_some_iff.1 hb).1, _, _, _, hb⟩
  · simp at h
theorem Ext.cell1 {W W' : World} (h : Ext W W') {b i : Nat} {v : Value} (hc : W.cell? ⟨b, i, none⟩ = some v) : W'.cell? ⟨b, i, none⟩ = some v := (h.cells.1 b i (is_cells hc).1).trans hc
section
variable {w : World} {g : Nat} {t : TypeId} {a b c d e : Value}
theorem Blk.c1 (h : Blk w g t #[a]) : w.cell? ⟨g, 0, none⟩ = some a ∧ (∀ i, w.frozen? ⟨g, i, none⟩ = false) ∧ g < w.heap.size := ⟨by simpa using h.cell 0, h.frozen, h.lt⟩
theorem Blk.c2 (h : Blk w g t #[a, b]) : w.cell? ⟨g, 0, none⟩ = some a ∧ w.cell? ⟨g, 1, none⟩ = some b ∧ (∀ i, w.frozen? ⟨g, i, none⟩ = false) ∧ g < w.heap.size := ⟨by simpa using h.cell 0, by simpa using h.cell 1, h.frozen, h.lt⟩
theorem Blk.c3 (h : Blk w g t #[a, b, c]) : w.cell? ⟨g, 0, none⟩ = some a ∧ w.cell? ⟨g, 1, none⟩ = some b ∧ w.cell? ⟨g, 2, none⟩ = some c ∧ (∀ i, w.frozen? ⟨g, i, none⟩ = false) ∧ g < w.heap.size := ⟨by simpa using h.cell 0, by simpa using h.cell 1, by simpa using h.cell 2, h.frozen, h.lt⟩
theorem Blk.c4 (h : Blk w g t #[a, b, c, d]) : w.cell? ⟨g, 0, none⟩ = some a ∧ w.cell? ⟨g, 1, none⟩ = some b ∧ w.cell? ⟨g, 2, none⟩ = some c ∧ w.cell? ⟨g, 3, none⟩ = some d ∧ (∀ i, w.frozen? ⟨g, i, none⟩ = false) ∧ g < w.heap.size := ⟨by simpa using h.cell 0, by simpa using h.cell 1, by simpa using h.cell 2, by simpa using h.cell 3, h.frozen, h.lt⟩
theorem Blk.c5 (h : Blk w g t #[a, b, c, d, e]) : w.cell? ⟨g, 0, none⟩ = some a ∧ w.cell? ⟨g, 1, none⟩ = some b ∧ w.cell? ⟨g, 2, none⟩ = some c ∧ w.cell? ⟨g, 3, none⟩ = some d ∧ w.cell? ⟨g, 4, none⟩ = some e ∧ (∀ i, w.frozen? ⟨g, i, none⟩ = false) ∧ g < w.heap.size := ⟨by simpa using h.cell 0, by simpa using h.cell 1, by simpa using h.cell 2, by simpa using h.cell 3, by simpa using h.cell 4, h.frozen, h.lt⟩
end
/-- .. for every later world. -/
def Later (w : World) (P : World → Prop) : Prop := ∀ W, Ext w W → P W

theorem own_cellset {w : World} {base sz g n cap k : Nat} {e : TypeId} {xs : List Value} {u : Value} (h : w.ownsRow base e sz (.slice (some ⟨g, 0, none⟩) n cap) n xs) : (w.setCell ⟨g, k, none⟩ u).ownsRow base e sz (.slice (some ⟨g, 0, none⟩) n cap) n (xs.set k u) := by
  obtain ⟨h1, h2⟩ := h
  refine ⟨by rw [List.length_set]; exact h1, .inr ?_⟩
  rcases h2 with ⟨h2, _⟩ | ⟨g', cap', cur, e1, hb, hh, hlc, hcm, hs, ht⟩
  · cases h2
  · injection e1 with e1 e2 e3
    injection e1 with e1
    injection e1 with e1 _ _
    subst e1 e3
    refine ⟨g, cap, cur.setIfInBounds k u, rfl, hb, ?_, hlc, hcm, by simpa using hs, ?_⟩
    · simp [World.setCell, Array.getElem?_modify, hh]
    · rw [Array.toList_setIfInBounds, ← ht]
      rw [List.take_set]
theorem flat_set4 {α : Type} {enc : α → List Value} (henc : ∀ x, (enc x).length = 4) {x : α} {a b c d : Value} (hx : enc x = [a, b, c, d]) : ∀ (l : List α) (i : Nat), i < l.length →
    ((((l.flatMap enc).set (i * 4) a).set (i * 4 + 1) b).set (i * 4 + 2) c).set (i * 4 + 3) d = (l.set i x).flatMap enc
  | y :: l, 0, _ => by
    obtain ⟨p, q, r, s, hy⟩ : ∃ p q r s, enc y = [p, q, r, s] := by
      match h : enc y, henc y with
      | [p, q, r, s], _ => exact ⟨p, q, r, s, rfl⟩
    simp [hy, hx]
  | y :: l, i + 1, h => by
    have ih := flat_set4 henc hx l i (by simpa using h)
    obtain ⟨p, q, r, s, hy⟩ : ∃ p q r s, enc y = [p, q, r, s] := by
      match h : enc y, henc y with
      | [p, q, r, s], _ => exact ⟨p, q, r, s, rfl⟩
    rw [List.set_cons_succ, List.flatMap_cons, List.flatMap_cons, ← ih, hy]
    rw [show (i + 1) * 4 = i * 4 + 4 by omega]
    simp only [List.cons_append, List.nil_append, List.set_cons_succ, show i * 4 + 4 + 1 = i * 4 + 1 + 4 by omega, show i * 4 + 4 + 2 = i * 4 + 2 + 4 by omega, show i * 4 + 4 + 3 = i * 4 + 3 + 4 by omega]
theorem own_put4 {α : Type} {enc : α → List Value} (henc : ∀ x, (enc x).length = 4) {w : World} {base g n cap i : Nat} {e : TypeId} {m : List α} {x : α} {a b c d : Value} (hx : enc x = [a, b, c, d])
    (h : Own enc e 4 w base (.slice (some ⟨g, 0, none⟩) n cap) m) (hn : n = m.length) (hi : i < n) :
    Own enc e 4 ((((w.setCell ⟨g, i * 4, none⟩ a).setCell ⟨g, i * 4 + 1, none⟩ b).setCell ⟨g, i * 4 + 2, none⟩ c).setCell ⟨g, i * 4 + 3, none⟩ d) base (.slice (some ⟨g, 0, none⟩) n cap) (m.set i x) := by
  unfold Own at *
  rw [List.length_set, ← hn, ← flat_set4 henc hx m i (by omega)]
  rw [← hn] at h
  exact own_cellset (own_cellset (own_cellset (own_cellset h)))
theorem own_frozen {α : Type} {enc : α → List Value} {w : World} {base g n cap sz : Nat} {e : TypeId} {m : List α} (h : Own enc e sz w base (.slice (some ⟨g, 0, none⟩) n cap) m) (k : Nat) : w.frozen? ⟨g, k, none⟩ = false := by
  rcases h.2 with ⟨h2, _⟩ | ⟨g', cap', cur, e1, hb, hh, _⟩
  · cases h2
  · injection e1 with e1 _ _
    injection e1 with e1
    injection e1 with e1 _ _
    subst e1
    simp [World.frozen?, hh]
/-- The row, cut short. -/
theorem own_short {α : Type} {enc : α → List Value} {sz : Nat} (henc : ∀ x, (enc x).length = sz) {w : World} {base g n cap k : Nat} {e : TypeId} {m : List α} (h : Own enc e sz w base (.slice (some ⟨g, 0, none⟩) n cap) m) (hk : k ≤ m.length) :
    Own enc e sz w base (.slice (some ⟨g, 0, none⟩) k cap) (m.take k) := by
  obtain ⟨h1, h2⟩ := h
  refine ⟨enc_len henc _, .inr ?_⟩
  rcases h2 with ⟨h2, _⟩ | ⟨g', cap', cur, e1, hb, hh, hlc, hcm, hs, ht⟩
  · cases h2
  · injection e1 with e1 e2 e3
    injection e1 with e1
    injection e1 with e1 _ _
    subst e1 e3
    have hl : (m.take k).length = k := by rw [List.length_take]; omega
    refine ⟨g, cap, cur, by rw [hl], hb, hh, by rw [hl]; omega, hcm, hs, ?_⟩
    rw [hl]
    have hm : m.flatMap enc = (m.take k).flatMap enc ++ (m.drop k).flatMap enc := by rw [← List.flatMap_append, List.take_append_drop]
    have h3 : (cur.toList.take (m.length * sz)).take (k * sz) = cur.toList.take (k * sz) := by
      rw [List.take_take, Nat.min_eq_left (Nat.mul_le_mul_right _ hk)]
    rw [← h3, ht, hm, List.take_append_of_le_length (by rw [enc_len henc, hl]; exact Nat.le_refl _), List.take_of_length_le (by rw [enc_len henc, hl]; exact Nat.le_refl _)]
/-- clear of a row's end. -/
theorem run_clear_own {α : Type} {enc : α → List Value} {sz : Nat} (henc : ∀ x, (enc x).length = sz) {t e ty : TypeId} {z : Value} (ht : Tryd.prog.underlying t = some (.slice e)) (hz : ∀ W, (zeroValue e).run Tryd.prog W = .ok z W) (hzs : z.cells.size = sz) (hsz : 0 < sz) (hz1 : ∀ i, i < sz → (z.cells[i]!).oneCell' = true)
    {w : World} {base g n cap k c : Nat} {m : List α} (h : Own enc e sz w base (.slice (some ⟨g, 0, none⟩) n cap) m) (hn : n = m.length) (hk : k ≤ n) :
    ∃ w', (Builtin.clear_ #[t] ty #[.slice (some ⟨g, k * sz, none⟩) (n - k) c]).run Tryd.prog w = .ok (.tuple #[]) w' ∧ Own enc e sz w' base (.slice (some ⟨g, 0, none⟩) k cap) (m.take k) ∧ w.grownBy w' (some g) := by
  by_cases h0 : n - k = 0
  · refine ⟨w, ?_, own_short henc h (by omega), World.grownBy.refl _ _⟩
    rw [h0]
    simp [Builtin.clear_, run_underlying ht]
  · obtain ⟨h1, h2⟩ := id h
    rcases h2 with ⟨h2, _⟩ | ⟨g', cap', cur, e1, hb, hh, hlc, hcm, hs, htk⟩
    · cases h2
    · injection e1 with e1 e2 e3
      injection e1 with e1
      injection e1 with e1 _ _
      subst e1 e3
      obtain ⟨q, hq⟩ : ∃ q, n - k = q + 1 := ⟨n - k - 1, by omega⟩
      have hle : (Builtin.zeroCells z.cells (n - k)).toList.length = (n - k) * sz := by rw [Array.length_toList, size_zeroCells, hzs]
      have hsum : k * sz + (n - k) * sz = n * sz := by rw [← Nat.add_mul, Nat.add_sub_cancel' hk]
      have hns : n * sz ≤ cap * sz := Nat.mul_le_mul_right _ (by omega)
      have hst := run_storeCells_at (P := Tryd.prog) g (k * sz) e (Builtin.zeroCells z.cells (n - k)).toList 0 cur w hh (by rw [hle, hs]; omega) (fun u hu => by
        simp only [Builtin.zeroCells, Array.toList_map, List.mem_map] at hu
        obtain ⟨i, -, rfl⟩ := hu
        exact hz1 _ (by rw [hzs]; exact Nat.mod_lt _ hsz))
      generalize hrow : (cur.toList.take (k * sz + 0) ++ (Builtin.zeroCells z.cells (n - k)).toList ++ cur.toList.drop (k * sz + 0 + (Builtin.zeroCells z.cells (n - k)).toList.length)).toArray = row at hst
      refine ⟨w.setRow g row, ?_, ?_, ⟨rfl, rfl, rfl, by simp [World.setRow], fun i _ hi => setRow_other w g i _ (fun e => hi (by rw [e]))⟩⟩
      · have h9 := hst
        rw [hq] at h9 ⊢
        simp [Builtin.clear_, run_underlying ht, hz, h9]
      · obtain ⟨s1, s2⟩ := own_short henc h (show k ≤ m.length by omega)
        refine ⟨s1, .inr ?_⟩
        rcases s2 with ⟨s2, _⟩ | ⟨g', cap', cur', e1, hb', hh', hlc', hcm', hs', htk'⟩
        · cases s2
        · injection e1 with e1 e2 e3
          injection e1 with e1
          injection e1 with e1 _ _
          subst e1 e3
          rw [hh] at hh'
          injection hh' with hh'
          injection hh' with hh' _ _
          subst hh'
          refine ⟨g, cap, row, by rw [← e2], hb, setRow_heap w g cur row e _ hh, hlc', hcm, ?_, ?_⟩
          · rw [← hrow]
            simp only [List.size_toArray, List.length_append, List.length_take, List.length_drop, hle, Array.length_toList]
            omega
          · rw [← htk', ← hrow, Nat.add_zero]
            have hl : (m.take k).length = k := by rw [List.length_take]; omega
            rw [hl]
            show List.take (k * sz) (List.take (k * sz) cur.toList ++ (Builtin.zeroCells z.cells (n - k)).toList ++ _) = _
            rw [List.append_assoc, List.take_append_of_le_length (by rw [List.length_take, Array.length_toList]; omega), List.take_take, Nat.min_self]
theorem ext_row {a b : World} (h : Ext a b) (row : Option Nat) : a.grownBy b row := ⟨h.os, h.tape, h.output, h.size, fun i hi _ => h.block i hi⟩
theorem row_below {a b : World} {base g : Nat} (h : a.grownBy b (some g)) (hb : base ≤ a.heap.size) (hg : base ≤ g) : Below base a b := (Below.refl base a).grown h hb (fun k e => by injection e with e; omega)
theorem idxF_cases {α : Type} (p : α → Bool) (l : List α) : (idxF p l = -1 ∧ ∀ x ∈ l, p x = false) ∨ ∃ k x, idxF p l = (k : Nat) ∧ l[k]? = some x ∧ p x = true ∧ ∀ j y, j < k → l[j]? = some y → p y = false := by
  cases h : l.findIdx? p with
  | none =>
    rw [List.findIdx?_eq_none_iff] at h
    exact .inl ⟨idxF_none p l h, h⟩
  | some k =>
    rw [List.findIdx?_eq_some_iff_getElem] at h
    obtain ⟨hk, hp, hj⟩ := h
    have hj' : ∀ j y, j < k → l[j]? = some y → p y = false := fun j y hjk hy => by
      have h1 := hj j hjk
      obtain ⟨h2, h3⟩ := List.getElem?_eq_some_iff.1 hy
      rw [h3] at h1
      simpa using h1
    exact .inr ⟨k, l[k], idxF_some p l k _ (List.getElem?_eq_getElem hk) hp hj', List.getElem?_eq_getElem hk, hp, hj'⟩

theorem own_heap {α : Type} {enc : α → List Value} {sz base : Nat} {e : TypeId} {w : World} {v : Value} {l : List α} (h : Own enc e sz w base v l) : ∀ g, v.ownBlock = some g → ∃ cur, w.heap[g]? = some (.cells cur e (0, 0)) := by
  intro g hg
  rcases h.2 with ⟨rfl, _⟩ | ⟨g', cap, cur, rfl, hb, hh, _⟩
  · cases hg
  · simp [Value.ownBlock] at hg
    subst hg
    exact ⟨cur, hh⟩
theorem own_apart {α β : Type} {enc : α → List Value} {enc' : β → List Value} {sz sz' base base' : Nat} {e e' : TypeId} {w w' : World} {v v' : Value} {l : List α} {l' : List β} (h : Own enc e sz w base v l) (h' : Own enc' e' sz' w base' v' l') (hne : e ≠ e') (hg : w.grownBy w' v'.ownBlock) : Own enc e sz w' base v l := by
  refine World.ownsRow.kept h hg ?_
  cases hv : v.ownBlock with
  | none => exact .inl rfl
  | some g =>
    refine .inr fun e1 => ?_
    obtain ⟨cur, h1⟩ := own_heap h g hv
    obtain ⟨cur', h2⟩ := own_heap h' g e1.symm
    rw [h1] at h2
    injection h2 with h2
    injection h2 with _ h2 _
    exact hne h2
theorem own_below {α : Type} {enc : α → List Value} {sz base : Nat} {e : TypeId} {w w' : World} {v : Value} {l : List α} (h : Own enc e sz w base v l) (hb : base ≤ w.heap.size) (hg : w.grownBy w' v.ownBlock) : Below base w w' :=
  (Below.refl base w).grown hg hb (fun k hk => (World.ownsRow.lt h k hk).1)
theorem own_set {α : Type} {enc : α → List Value} {sz base g i : Nat} {e : TypeId} {w : World} {v u : Value} {l : List α} (h : Own enc e sz w base v l) (hg : g < base) : Own enc e sz (w.setCell ⟨g, i, none⟩ u) base v l := h.far hg u
theorem ext_grownP {w w1 W : World} {g : Nat} (h : Ext w w1) (k : w1.grownBy W (some g)) (hg : w.heap.size ≤ g) : Ext w W :=
  ⟨k.os.trans h.os, k.tape.trans h.tape, k.output.trans h.output, Nat.le_trans h.size k.size, fun i hi => (k.block i (Nat.lt_of_lt_of_le hi h.size) (by intro e; injection e with e; omega)).trans (h.block i hi)⟩
theorem row_frozen {w : World} {base g n cap sz : Nat} {e : TypeId} {xs : List Value} (h : w.ownsRow base e sz (.slice (some ⟨g, 0, none⟩) n cap) n xs) (k : Nat) : w.frozen? ⟨g, k, none⟩ = false := by
  rcases h.2 with ⟨h2, _⟩ | ⟨g', cap', cur, e1, hb, hh, _⟩
  · cases h2
  · injection e1 with e1 _ _
    injection e1 with e1
    injection e1 with e1 _ _
    subst e1
    simp [World.frozen?, hh]
theorem row_cell {w : World} {base g n cap : Nat} {e : TypeId} {xs : List Value} (h : w.ownsRow base e 4 (.slice (some ⟨g, 0, none⟩) n cap) n xs) {j i : Nat} (hj : j < n) (hi : i < 4) : ∃ u, w.cell? ⟨g, j * 4 + i, none⟩ = some u := by
  have hl : j * 4 + i < xs.length := by rw [h.1]; omega
  refine ⟨xs[j * 4 + i], ?_⟩
  have := World.ownsRow.cells h (g := g) rfl (j * 4 + i) _ (List.getElem?_eq_getElem hl)
  simpa [Addr.add_lit] using this

/-- Nothing old has turned outside the blocks from lo on below hi. -/
structure Gap (lo hi : Nat) (w w' : World) : Prop where
  os : w'.os = w.os
  tape : w'.tape = w.tape
  output : w'.output = w.output
  size : w.heap.size ≤ w'.heap.size
  block : ∀ k, k < w.heap.size → (k < lo ∨ hi ≤ k) → w'.heap[k]? = w.heap[k]?
theorem Gap.refl (lo hi : Nat) (w : World) : Gap lo hi w w := ⟨rfl, rfl, rfl, Nat.le_refl _, fun _ _ _ => rfl⟩
theorem Gap.trans {lo hi : Nat} {a b c : World} (h : Gap lo hi a b) (k : Gap lo hi b c) : Gap lo hi a c :=
  ⟨k.os.trans h.os, k.tape.trans h.tape, k.output.trans h.output, Nat.le_trans h.size k.size, fun i hi hb => (k.block i (Nat.lt_of_lt_of_le hi h.size) hb).trans (h.block i hi hb)⟩
theorem Gap.of_ext {lo hi : Nat} {a b : World} (h : Ext a b) : Gap lo hi a b := ⟨h.os, h.tape, h.output, h.size, fun i hi _ => h.block i hi⟩
theorem Gap.setCell {lo hi : Nat} {a b : World} (h : Gap lo hi a b) {p : Addr} (h1 : lo ≤ p.block) (h2 : p.block < hi) (u : Value) : Gap lo hi a (b.setCell p u) :=
  ⟨h.os, h.tape, h.output, by simpa [World.setCell] using h.size, fun i hi hb => (Below.heap_setCell b p u i (by rintro rfl; omega)).trans (h.block i hi hb)⟩
theorem Gap.ext {lo hi : Nat} {w a b : World} (h : Gap lo hi a b) (e : Ext w a) (hl : w.heap.size ≤ lo) : Ext w b :=
  ⟨h.os.trans e.os, h.tape.trans e.tape, h.output.trans e.output, Nat.le_trans e.size h.size, fun i hi => (h.block i (Nat.lt_of_lt_of_le hi e.size) (.inl (by omega))).trans (e.block i hi)⟩
theorem Gap.blk {lo hi g : Nat} {a b : World} {t : TypeId} {cs : Array Value} (h : Gap lo hi a b) (hB : Blk a g t cs) (hg : g < lo ∨ hi ≤ g) : Blk b g t cs := (h.block g hB.lt hg).trans hB
theorem Gap.own {α : Type} {enc : α → List Value} {sz base lo hi : Nat} {e : TypeId} {a b : World} {v : Value} {l : List α} (h : Gap lo hi a b) (ho : Own enc e sz a base v l) (hb : hi ≤ base) : Own enc e sz b base v l := by
  obtain ⟨h1, h2⟩ := ho
  refine ⟨h1, ?_⟩
  rcases h2 with h2 | ⟨r, cap, cur, hv, hr, hh, rest⟩
  · exact Or.inl h2
  · exact Or.inr ⟨r, cap, cur, hv, hr, (h.block r (Array.getElem?_eq_some_iff.1 hh).1 (.inr (by omega))).trans hh, rest⟩
theorem own_top {α : Type} {enc : α → List Value} {sz base : Nat} {e : TypeId} {w : World} {v : Value} {l : List α} (h : Own enc e sz w base v l) : ∀ g, v.ownBlock = some g → g < w.heap.size := fun g hg => by
  obtain ⟨cur, hh⟩ := own_heap h g hg
  exact (Array.getElem?_eq_some_iff.1 hh).1


theorem own_form {α : Type} {enc : α → List Value} {sz : Nat} {e : TypeId} {W : World} {base : Nat} {v : Value} {l : List α} (h : Own enc e sz W base v l) : (v = .slice none 0 0 ∧ l = []) ∨ ∃ g cap cur, v = .slice (some ⟨g, 0, none⟩) l.length cap ∧ base ≤ g ∧ W.heap[g]? = some (.cells cur e (0, 0)) ∧ l.length ≤ cap ∧ cap ≤ maxLen ∧ cur.size = cap * sz ∧ cur.toList.take (l.length * sz) = l.flatMap enc := by
  rcases h.2 with ⟨h1, h2⟩ | ⟨g, cap, cur, h1, h2, h3, h4, h5, h6, h7⟩
  · exact .inl ⟨h1, List.eq_nil_of_length_eq_zero h2⟩
  · exact .inr ⟨g, cap, cur, h1, h2, h3, h4, h5, h6, h7⟩
theorem ext_grown {w w1 W : World} {g : Nat} (h : Ext w w1) (k : w1.grownBy W (some g)) (hg : w.heap.size ≤ g) : Ext w W :=
  ⟨k.os.trans h.os, k.tape.trans h.tape, k.output.trans h.output, Nat.le_trans h.size k.size, fun i hi => (k.block i (Nat.lt_of_lt_of_le hi h.size) (by intro e; injection e with e; omega)).trans (h.block i hi)⟩
theorem row_set {α : Type} {enc : α → List Value} (henc : ∀ x, (enc x).length = 1) {x : α} {a : Value} (hx : enc x = [a]) : ∀ (l : List α) (i : Nat), i < l.length → (l.flatMap enc).set i a = (l.set i x).flatMap enc
  | y :: l, 0, _ => by
    obtain ⟨p, hy⟩ : ∃ p, enc y = [p] := by
      match h : enc y, henc y with
      | [p], _ => exact ⟨p, rfl⟩
    simp [hy, hx]
  | y :: l, i + 1, h => by
    have ih := row_set henc hx l i (by simpa using h)
    obtain ⟨p, hy⟩ : ∃ p, enc y = [p] := by
      match h : enc y, henc y with
      | [p], _ => exact ⟨p, rfl⟩
    rw [List.set_cons_succ, List.flatMap_cons, List.flatMap_cons, ← ih, hy]
    rfl
/-- One number is put into a row of the call's own. -/
theorem own_put1 {w : World} {base g n cap i : Nat} {e : TypeId} {m : List Int} {x : Int} (h : Own encI e 1 w base (.slice (some ⟨g, 0, none⟩) n cap) m) (hn : n = m.length) (hi : i < n) :
    Own encI e 1 (w.setCell ⟨g, i, none⟩ (.int .i64 x)) base (.slice (some ⟨g, 0, none⟩) n cap) (m.set i x) := by
  unfold Own at *
  rw [List.length_set, ← hn, ← row_set (enc := encI) (fun _ => rfl) rfl m i (by omega)]
  rw [← hn] at h
  exact own_cellset h
theorem flat_set5 {α : Type} {enc : α → List Value} (henc : ∀ x, (enc x).length = 5) {x : α} {a b c d e : Value} (hx : enc x = [a, b, c, d, e]) : ∀ (l : List α) (i : Nat), i < l.length →
    (((((l.flatMap enc).set (i * 5) a).set (i * 5 + 1) b).set (i * 5 + 2) c).set (i * 5 + 3) d).set (i * 5 + 4) e = (l.set i x).flatMap enc
  | y :: l, 0, _ => by
    obtain ⟨p, q, r, s, t, hy⟩ : ∃ p q r s t, enc y = [p, q, r, s, t] := by
      match h : enc y, henc y with
      | [p, q, r, s, t], _ => exact ⟨p, q, r, s, t, rfl⟩
    simp [hy, hx]
  | y :: l, i + 1, h => by
    have ih := flat_set5 henc hx l i (by simpa using h)
    obtain ⟨p, q, r, s, t, hy⟩ : ∃ p q r s t, enc y = [p, q, r, s, t] := by
      match h : enc y, henc y with
      | [p, q, r, s, t], _ => exact ⟨p, q, r, s, t, rfl⟩
    rw [List.set_cons_succ, List.flatMap_cons, List.flatMap_cons, ← ih, hy]
    rw [show (i + 1) * 5 = i * 5 + 5 by omega]
    simp only [List.cons_append, List.nil_append, List.set_cons_succ, show i * 5 + 5 + 1 = i * 5 + 1 + 5 by omega, show i * 5 + 5 + 2 = i * 5 + 2 + 5 by omega, show i * 5 + 5 + 3 = i * 5 + 3 + 5 by omega, show i * 5 + 5 + 4 = i * 5 + 4 + 5 by omega]
theorem own_put5 {α : Type} {enc : α → List Value} (henc : ∀ x, (enc x).length = 5) {w : World} {base g n cap i : Nat} {t : TypeId} {m : List α} {x : α} {a b c d e : Value} (hx : enc x = [a, b, c, d, e])
    (h : Own enc t 5 w base (.slice (some ⟨g, 0, none⟩) n cap) m) (hn : n = m.length) (hi : i < n) :
    Own enc t 5 (((((w.setCell ⟨g, i * 5, none⟩ a).setCell ⟨g, i * 5 + 1, none⟩ b).setCell ⟨g, i * 5 + 2, none⟩ c).setCell ⟨g, i * 5 + 3, none⟩ d).setCell ⟨g, i * 5 + 4, none⟩ e) base (.slice (some ⟨g, 0, none⟩) n cap) (m.set i x) := by
  unfold Own at *
  rw [List.length_set, ← hn, ← flat_set5 henc hx m i (by omega)]
  rw [← hn] at h
  exact own_cellset (own_cellset (own_cellset (own_cellset (own_cellset h))))
end Go.Proofs.YtafdbgielmlihaaDoor
