/- Copying by append onto an empty slice. -/
import Derived.Test.YtafdbgielmlihaaDoorPkChLeastCardA
import Derived.Deep.Upon
import Derived.WalkMore
import Derived.RegionTactic
import Derived.Test.YtafdbgielmlihaaDoorPkChLeastCardB
namespace Go.Proofs.YtafdbgielmlihaaDoor
open Go.RowKit Go.Shelf Go.Lib

theorem Own.new {α : Type} {enc : α → List Value} {e : TypeId} {sz : Nat} {W : World} {base g : Nat} (h : Blk W g e #[]) (hb : base ≤ g) : Own enc e sz W base (.slice (some ⟨g, 0, none⟩) 0 0) ([] : List α) :=
  ⟨by simp, .inr ⟨g, 0, #[], rfl, hb, h, Nat.le_refl _, by decide, by simp, by simp⟩⟩
theorem enc_len {α : Type} {enc : α → List Value} {sz : Nat} (henc : ∀ x, (enc x).length = sz) : ∀ l : List α, (l.flatMap enc).length = l.length * sz
  | [] => by simp
  | x :: l => by rw [List.flatMap_cons, List.length_append, henc, enc_len henc l, List.length_cons, Nat.succ_mul, Nat.add_comm]
theorem flat_at {α : Type} {enc : α → List Value} {sz : Nat} (henc : ∀ x, (enc x).length = sz) (hsz : 0 < sz) : ∀ (l : List α) (j : Nat) (u : Value), (l.flatMap enc)[j]? = some u → ∃ x, l[j / sz]? = some x ∧ (enc x)[j % sz]? = some u
  | [], j, u, h => by simp at h
  | x :: l, j, u, h => by
    rw [List.flatMap_cons] at h
    by_cases hj : j < sz
    · rw [List.getElem?_append_left (by rw [henc]; exact hj)] at h
      exact ⟨x, by rw [Nat.div_eq_of_lt hj]; rfl, by rw [Nat.mod_eq_of_lt hj]; exact h⟩
    · rw [List.getElem?_append_right (by rw [henc]; omega), henc] at h
      obtain ⟨y, h1, h2⟩ := flat_at henc hsz l (j - sz) u h
      have hj' : j = (j - sz) + sz := by omega
      refine ⟨y, ?_, ?_⟩
      · rw [hj', Nat.add_div_right _ hsz]; simpa using h1
      · rw [hj', Nat.add_mod_right]; exact h2
theorem Sl.flat {α : Type} {enc : α → List Value} {sz : Nat} (henc : ∀ x, (enc x).length = sz) (hsz : 0 < sz) {W : World} {b off n c : Nat} {l : List α} (h : Sl enc sz W (.slice (some ⟨b, off, none⟩) n c) l) :
    ∀ j u, (l.flatMap enc)[j]? = some u → W.cell? ((⟨b, off, none⟩ : Addr).add j) = some u := by
  intro j u hu
  obtain ⟨x, h1, h2⟩ := flat_at henc hsz l j u hu
  obtain ⟨A', c', hv, hl, hc, hx⟩ := h
  injection hv with e1 e2 e3
  subst e2
  have hlt : j / sz < l.length := (List.getElem?_eq_some_iff.1 h1).1
  obtain ⟨b', off', hA, hb, hcell⟩ := hx (Nat.lt_of_le_of_lt (Nat.zero_le _) hlt)
  rw [hA] at e1
  injection e1 with e1
  injection e1 with e1 e4
  subst e1 e4
  have := hcell _ x h1 _ u h2
  rw [Addr.add_lit, Nat.add_assoc] at *
  rw [show j / sz * sz + j % sz = j by rw [Nat.mul_comm]; exact Nat.div_add_mod j sz] at this
  exact this
/-- append of a whole slice onto an empty one without room. -/
theorem run_copy {α : Type} {enc : α → List Value} {t ty e : TypeId} {sz : Nat} {z : Value} {bytes : Nat} (ht : Tryd.prog.underlying t = some (.slice e))
    (hinfo : (Tryd.prog.info? e).map (fun i => (i.zero, i.size, i.bytes)) = some (some z, sz, bytes)) (hzs : z.cells.size = sz) (hsz : 0 < sz) (hbytes : bytes ≤ 1000) (henc : ∀ x, (enc x).length = sz)
    {W : World} {base g : Nat} (hB : Blk W g e #[]) (hg : base ≤ g) (hW : base ≤ W.heap.size) {x : Value} {l : List α} (hx : Sl enc sz W x l) (hl : l.length ≤ 1000) :
    ∃ v' W', (Builtin.append_ #[t, t] ty #[.slice (some ⟨g, 0, none⟩) 0 0, x]).run Tryd.prog W = .ok v' W' ∧ Own enc e sz W' base v' l ∧ Ext W W' := by
  obtain ⟨i0, hi, hz0, hz1, hz2⟩ := info_parts hinfo
  subst hz1 hz2
  by_cases h0 : l.length = 0
  · have : l = [] := List.eq_nil_of_length_eq_zero h0
    subst this
    obtain ⟨A, c, rfl, _, _, _⟩ := hx
    refine ⟨_, _, run_append_nothing W t t ty e i0 ht hi _ 0 0 (Nat.le_refl _) _ ?_, Own.new hB hg, Ext.refl _⟩
    exact ⟨.inl ⟨e, ht⟩, fun _ => by simp [Builtin.lenOf], by cases A <;> simp [Builtin.firstCells, loadCells, loadCellsFrom], by cases A <;> simp [Builtin.firstCells, loadCells, loadCellsFrom], by simp, by simp⟩
  · obtain ⟨A, c, rfl, hlc, hcm, hcell⟩ := id hx
    obtain ⟨b, off, rfl, hb, _⟩ := hcell (by omega)
    have hge := grownCap_ge W (0 + l.length) 0 e
    have hge' := hge
    rw [Nat.zero_add] at hge'
    have hcm2 : grownCap W (0 + l.length) 0 e ≤ maxLen := grownCap_le_maxLen W (0 + l.length) 0 e (by unfold maxLen; omega)
    have hr := run_append_grow (P := Tryd.prog) W t ty e i0 z ht hi hz0 ⟨g, 0, none⟩ 0 0 [] (by simp) (by simp) ⟨b, off, none⟩ l.length c (l.flatMap enc) (enc_len henc l) (Sl.flat henc hsz hx) (by omega) (by omega)
      (growslice_fits (by omega) (by have : (0 + l.length) * i0.bytes ≤ 1000 * 1000 := Nat.mul_le_mul (by omega) hbytes; omega))
    refine ⟨_, _, hr, ⟨enc_len henc l, .inr ⟨W.heap.size, _, _, by rw [Nat.zero_add], hW, heap_alloc_new W.drew _, by omega, hcm2, ?_, ?_⟩⟩, (Ext.refl W).drew.alloc _⟩
    · simp only [Array.size_append, List.size_toArray, size_zeroCells, hzs, enc_len henc l, List.length_nil, Nat.zero_add]
      rw [← Nat.add_mul, Nat.add_sub_cancel' hge']
    · simp only [Array.toList_append, List.nil_append]
      rw [← enc_len henc l]
      exact List.take_left
end Go.Proofs.YtafdbgielmlihaaDoor
/- Words for memory that a call makes itself, of whatever element type: rows that are written into, cut short, cleared; what turns and what does not. -/
namespace Go.Proofs.YtafdbgielmlihaaDoor
open Go.RowKit Go.Shelf Go.Lib
set_option maxRecDepth 100000
set_option linter.unusedSimpArgs false

theorem is_cells {W : World} {b i : Nat} {v : Value} (h : W.cell? ⟨b, i, none⟩ = some v) : b < W.heap.size ∧ ∃ c t f, W.heap[b]? = some (.cells c t f) := by
  unfold World.cell? at h
  split at h
  · rename_i c t f hb
    exact ⟨(Array.getElem?_eq_some_iff.1 hb).1, _, _, _, hb⟩
  · simp at h
theorem Ext.cell1 {W W' : World} (h : Ext W W') {b i : Nat} {v : Value} (hc : W.cell? ⟨b, i, none⟩ = some v) : W'.cell? ⟨b, i, none⟩ = some v := (h.cells.1 b i (is_cells hc).1).trans hc
section
variable {w : World} {g : Nat} {t : TypeId} {a b c d e : Value}
theorem Blk.c1 (h : Blk w g t #[a]) : w.cell? ⟨g, 0, none⟩ = some a ∧ (∀ i, w.frozen? ⟨g, i, none⟩ = false) ∧ g < w.heap.size := ⟨by simpa using h.cell 0, h.frozen, h.lt⟩
theorem Blk.c2 (h : Blk w g t #[a, b]) : w.cell? ⟨g, 0, none⟩ = some a ∧ w.cell? ⟨g, 1, none⟩ = some b ∧ (∀ i, w.frozen? ⟨g, i, none⟩ = false) ∧ g < w.heap.size := ⟨by simpa using h.cell 0, by simpa using h.cell 1, h.frozen, h.lt⟩
theorem Blk.c3 (h : Blk w g t #[a, b, c]) : w.cell? ⟨g, 0, none⟩ = some a ∧ w.cell? ⟨g, 1, none⟩ = some b ∧ w.cell? ⟨g, 2, none⟩ = some c ∧ (∀ i, w.frozen? ⟨g, i, none⟩ = false) ∧ g < w.heap.size := ⟨by simpa using h.cell 0, by simpa using h.cell 1, by simpa using h.cell 2, h.frozen, h.lt⟩
theorem Blk.c4 (h : Blk w g t #[a, b, c, d]) : w.cell? ⟨g, 0, none⟩ = some a ∧ w.cell? ⟨g, 1, none⟩ = some b ∧ w.cell? ⟨g, 2, none⟩ = some c ∧ w.cell? ⟨g, 3, none⟩ = some d ∧ (∀ i, w.frozen? ⟨g, i, none⟩ = false) ∧ g < w.heap.size := ⟨by simpa using h.cell 0, by simpa using h.cell 1, by simpa using h.cell 2, by simpa using h.cell 3, h.frozen, h.lt⟩
theorem Blk.c5 (h : Blk w g t #[a, b, c, d, e]) : w.cell? ⟨g, 0, none⟩ = some a ∧ w.cell? ⟨g, 1, none⟩ = some b ∧ w.cell? ⟨g, 2, none⟩ = some c ∧ w.cell? ⟨g, 3, none⟩ = some d ∧ w.cell? ⟨g, 4, none⟩ = some e ∧ (∀ i, w.frozen? ⟨g, i, none⟩ = false) ∧ g < w.heap.size := ⟨by simpa using h.cell 0, by simpa using h.cell 1, by simpa using h.cell 2, by simpa using h.cell 3, by simpa using h.cell 4, h.frozen, h.lt⟩
end
/-- .. for every later world. -/
def Later (w : World) (P : World → Prop) : Prop := ∀ W, Ext w W → P W

theorem own_cellset {w : World} {base sz g n cap k : Nat} {e : TypeId} {xs : List Value} {u : Value} (h : w.ownsRow base e sz (.slice (some ⟨g, 0, none⟩) n cap) n xs) : (w.setCell ⟨g, k, none⟩ u).ownsRow base e sz (.slice (some ⟨g, 0, none⟩) n cap) n (xs.set k u) := by
  obtain ⟨h1, h2⟩ := h
  refine ⟨by rw [List.length_set]; exact h1, .inr ?_⟩
  rcases h2 with ⟨h2, _⟩ | ⟨g', cap', cur, e1, hb, hh, hlc, hcm, hs, ht⟩
  · cases h2
  · injection e1 with e1 e2 e3
    injection e1 with e1
    injection e1 with e1 _ _
    subst e1 e3
    refine ⟨g, cap, cur.setIfInBounds k u, rfl, hb, ?_, hlc, hcm, by simpa using hs, ?_⟩
    · simp [World.setCell, Array.getElem?_modify, hh]
    · rw [Array.toList_setIfInBounds, ← ht]
      rw [List.take_set]
theorem own_frozen {α : Type} {enc : α → List Value} {w : World} {base g n cap sz : Nat} {e : TypeId} {m : List α} (h : Own enc e sz w base (.slice (some ⟨g, 0, none⟩) n cap) m) (k : Nat) : w.frozen? ⟨g, k, none⟩ = false := by
  rcases h.2 with ⟨h2, _⟩ | ⟨g', cap', cur, e1, hb, hh, _⟩
  · cases h2
  · injection e1 with e1 _ _
    injection e1 with e1
    injection e1 with e1 _ _
    subst e1
    simp [World.frozen?, hh]
/-- The row, cut short. -/
theorem own_short {α : Type} {enc : α → List Value} {sz : Nat} (henc : ∀ x, (enc x).length = sz) {w : World} {base g n cap k : Nat} {e : TypeId} {m : List α} (h : Own enc e sz w base (.slice (some ⟨g, 0, none⟩) n cap) m) (hk : k ≤ m.length) :
    Own enc e sz w base (.slice (some ⟨g, 0, none⟩) k cap) (m.take k) := by
  obtain ⟨h1, h2⟩ := h
  refine ⟨enc_len henc _, .inr ?_⟩
  rcases h2 with ⟨h2, _⟩ | ⟨g', cap', cur, e1, hb, hh, hlc, hcm, hs, ht⟩
  · cases h2
  · injection e1 with e1 e2 e3
    injection e1 with e1
    injection e1 with e1 _ _
    subst e1 e3
    have hl : (m.take k).length = k := by rw [List.length_take]; omega
    refine ⟨g, cap, cur, by rw [hl], hb, hh, by rw [hl]; omega, hcm, hs, ?_⟩
    rw [hl]
    have hm : m.flatMap enc = (m.take k).flatMap enc ++ (m.drop k).flatMap enc := by rw [← List.flatMap_append, List.take_append_drop]
    have h3 : (cur.toList.take (m.length * sz)).take (k * sz) = cur.toList.take (k * sz) := by
      rw [List.take_take, Nat.min_eq_left (Nat.mul_le_mul_right _ hk)]
    rw [← h3, ht, hm, List.take_append_of_le_length (by rw [enc_len henc, hl]; exact Nat.le_refl _), List.take_of_length_le (by rw [enc_len henc, hl]; exact Nat.le_refl _)]
/-- clear of a row's end. -/
theorem run_clear_own {α : Type} {enc : α → List Value} {sz : Nat} (henc : ∀ x, (enc x).length = sz) {t e ty : TypeId} {z : Value} (ht : Tryd.prog.underlying t = some (.slice e)) (hz : ∀ W, (zeroValue e).run Tryd.prog W = .ok z W) (hzs : z.cells.size = sz) (hsz : 0 < sz) (hz1 : ∀ i, i < sz → (z.cells[i]!).oneCell' = true)
    {w : World} {base g n cap k c : Nat} {m : List α} (h : Own enc e sz w base (.slice (some ⟨g, 0, none⟩) n cap) m) (hn : n = m.length) (hk : k ≤ n) :
    ∃ w', (Builtin.clear_ #[t] ty #[.slice (some ⟨g, k * sz, none⟩) (n - k) c]).run Tryd.prog w = .ok (.tuple #[]) w' ∧ Own enc e sz w' base (.slice (some ⟨g, 0, none⟩) k cap) (m.take k) ∧ w.grownBy w' (some g) := by
  by_cases h0 : n - k = 0
  · refine ⟨w, ?_, own_short henc h (by omega), World.grownBy.refl _ _⟩
    rw [h0]
    simp [Builtin.clear_, run_underlying ht]
  · obtain ⟨h1, h2⟩ := id h
    rcases h2 with ⟨h2, _⟩ | ⟨g', cap', cur, e1, hb, hh, hlc, hcm, hs, htk⟩
    · cases h2
    · injection e1 with e1 e2 e3
      injection e1 with e1
      injection e1 with e1 _ _
      subst e1 e3
      obtain ⟨q, hq⟩ : ∃ q, n - k = q + 1 := ⟨n - k - 1, by omega⟩
      have hle : (Builtin.zeroCells z.cells (n - k)).toList.length = (n - k) * sz := by rw [Array.length_toList, size_zeroCells, hzs]
      have hsum : k * sz + (n - k) * sz = n * sz := by rw [← Nat.add_mul, Nat.add_sub_cancel' hk]
      have hns : n * sz ≤ cap * sz := Nat.mul_le_mul_right _ (by omega)
      have hst := run_storeCells_at (P := Tryd.prog) g (k * sz) e (Builtin.zeroCells z.cells (n - k)).toList 0 cur w hh (by rw [hle, hs]; omega) (fun u hu => by
        simp only [Builtin.zeroCells, Array.toList_map, List.mem_map] at hu
        obtain ⟨i, -, rfl⟩ := hu
        exact hz1 _ (by rw [hzs]; exact Nat.mod_lt _ hsz))
      generalize hrow : (cur.toList.take (k * sz + 0) ++ (Builtin.zeroCells z.cells (n - k)).toList ++ cur.toList.drop (k * sz + 0 + (Builtin.zeroCells z.cells (n - k)).toList.length)).toArray = row at hst
      refine ⟨w.setRow g row, ?_, ?_, ⟨rfl, rfl, rfl, by simp [World.setRow], fun i _ hi => setRow_other w g i _ (fun e => hi (by rw [e]))⟩⟩
      · have h9 := hst
        rw [hq] at h9 ⊢
        simp [Builtin.clear_, run_underlying ht, hz, h9]
      · obtain ⟨s1, s2⟩ := own_short henc h (show k ≤ m.length by omega)
        refine ⟨s1, .inr ?_⟩
        rcases s2 with ⟨s2, _⟩ | ⟨g', cap', cur', e1, hb', hh', hlc', hcm', hs', htk'⟩
        · cases s2
        · injection e1 with e1 e2 e3
          injection e1 with e1
          injection e1 with e1 _ _
          subst e1 e3
          rw [hh] at hh'
          injection hh' with hh'
          injection hh' with hh' _ _
          subst hh'
          refine ⟨g, cap, row, by rw [← e2], hb, setRow_heap w g cur row e _ hh, hlc', hcm, ?_, ?_⟩
          · rw [← hrow]
            simp only [List.size_toArray, List.length_append, List.length_take, List.length_drop, hle, Array.length_toList]
            omega
          · rw [← htk', ← hrow, Nat.add_zero]
            have hl : (m.take k).length = k := by rw [List.length_take]; omega
            rw [hl]
            show List.take (k * sz) (List.take (k * sz) cur.toList ++ (Builtin.zeroCells z.cells (n - k)).toList ++ _) = _
            rw [List.append_assoc, List.take_append_of_le_length (by rw [List.length_take, Array.length_toList]; omega), List.take_take, Nat.min_self]
theorem ext_row {a b : World} (h : Ext a b) (row : Option Nat) : a.grownBy b row := ⟨h.os, h.tape, h.output, h.size, fun i hi _ => h.block i hi⟩
theorem row_below {a b : World} {base g : Nat} (h : a.grownBy b (some g)) (hb : base ≤ a.heap.size) (hg : base ≤ g) : Below base a b := (Below.refl base a).grown h hb (fun k e => by injection e with e; omega)
theorem idxF_cases {α : Type} (p : α → Bool) (l : List α) : (idxF p l = -1 ∧ ∀ x ∈ l, p x = false) ∨ ∃ k x, idxF p l = (k : Nat) ∧ l[k]? = some x ∧ p x = true ∧ ∀ j y, j < k → l[j]? = some y → p y = false := by
  cases h : l.findIdx? p with
  | none =>
    rw [List.findIdx?_eq_none_iff] at h
    exact .inl ⟨idxF_none p l h, h⟩
  | some k =>
    rw [List.findIdx?_eq_some_iff_getElem] at h
    obtain ⟨hk, hp, hj⟩ := h
    have hj' : ∀ j y, j < k → l[j]? = some y → p y = false := fun j y hjk hy => by
      have h1 := hj j hjk
      obtain ⟨h2, h3⟩ := List.getElem?_eq_some_iff.1 hy
      rw [h3] at h1
      simpa using h1
    exact .inr ⟨k, l[k], idxF_some p l k _ (List.getElem?_eq_getElem hk) hp hj', List.getElem?_eq_getElem hk, hp, hj'⟩

theorem own_heap {α : Type} {enc : α → List Value} {sz base : Nat} {e : TypeId} {w : World} {v : Value} {l : List α} (h : Own enc e sz w base v l) : ∀ g, v.ownBlock = some g → ∃ cur, w.heap[g]? = some (.cells cur e (0, 0)) := by
  intro g hg
  rcases h.2 with ⟨rfl, _⟩ | ⟨g', cap, cur, rfl, hb, hh, _⟩
  · cases hg
  · simp [Value.ownBlock] at hg
    subst hg
    exact ⟨cur, hh⟩
theorem own_apart {α β : Type} {enc : α → List Value} {enc' : β → List Value} {sz sz' base base' : Nat} {e e' : TypeId} {w w' : World} {v v' : Value} {l : List α} {l' : List β} (h : Own enc e sz w base v l) (h' : Own enc' e' sz' w base' v' l') (hne : e ≠ e') (hg : w.grownBy w' v'.ownBlock) : Own enc e sz w' base v l := by
  refine World.ownsRow.kept h hg ?_
  cases hv : v.ownBlock with
  | none => exact .inl rfl
  | some g =>
    refine .inr fun e1 => ?_
    obtain ⟨cur, h1⟩ := own_heap h g hv
    obtain ⟨cur', h2⟩ := own_heap h' g e1.symm
    rw [h1] at h2
    injection h2 with h2
    injection h2 with _ h2 _
    exact hne h2
theorem own_below {α : Type} {enc : α → List Value} {sz base : Nat} {e : TypeId} {w w' : World} {v : Value} {l : List α} (h : Own enc e sz w base v l) (hb : base ≤ w.heap.size) (hg : w.grownBy w' v.ownBlock) : Below base w w' :=
  (Below.refl base w).grown hg hb (fun k hk => (World.ownsRow.lt h k hk).1)
theorem own_set {α : Type} {enc : α → List Value} {sz base g i : Nat} {e : TypeId} {w : World} {v u : Value} {l : List α} (h : Own enc e sz w base v l) (hg : g < base) : Own enc e sz (w.setCell ⟨g, i, none⟩ u) base v l := h.far hg u
theorem ext_grownP {w w1 W : World} {g : Nat} (h : Ext w w1) (k : w1.grownBy W (some g)) (hg : w.heap.size ≤ g) : Ext w W :=
  ⟨k.os.trans h.os, k.tape.trans h.tape, k.output.trans h.output, Nat.le_trans h.size k.size, fun i hi => (k.block i (Nat.lt_of_lt_of_le hi h.size) (by intro e; injection e with e; omega)).trans (h.block i hi)⟩
/-- Nothing old has turned outside the blocks from lo on below hi. -/
structure Gap (lo hi : Nat) (w w' : World) : Prop where
  os : w'.os = w.os
  tape : w'.tape = w.tape
  output : w'.output = w.output
  size : w.heap.size ≤ w'.heap.size
  block : ∀ k, k < w.heap.size → (k < lo ∨ hi ≤ k) → w'.heap[k]? = w.heap[k]?
theorem Gap.refl (lo hi : Nat) (w : World) : Gap lo hi w w := ⟨rfl, rfl, rfl, Nat.le_refl _, fun _ _ _ => rfl⟩
theorem Gap.trans {lo hi : Nat} {a b c : World} (h : Gap lo hi a b) (k : Gap lo hi b c) : Gap lo hi a c :=
  ⟨k.os.trans h.os, k.tape.trans h.tape, k.output.trans h.output, Nat.le_trans h.size k.size, fun i hi hb => (k.block i (Nat.lt_of_lt_of_le hi h.size) hb).trans (h.block i hi hb)⟩
theorem Gap.setCell {lo hi : Nat} {a b : World} (h : Gap lo hi a b) {p : Addr} (h1 : lo ≤ p.block) (h2 : p.block < hi) (u : Value) : Gap lo hi a (b.setCell p u) :=
  ⟨h.os, h.tape, h.output, by simpa [World.setCell] using h.size, fun i hi hb => (Below.heap_setCell b p u i (by rintro rfl; omega)).trans (h.block i hi hb)⟩
theorem Gap.ext {lo hi : Nat} {w a b : World} (h : Gap lo hi a b) (e : Ext w a) (hl : w.heap.size ≤ lo) : Ext w b :=
  ⟨h.os.trans e.os, h.tape.trans e.tape, h.output.trans e.output, Nat.le_trans e.size h.size, fun i hi => (h.block i (Nat.lt_of_lt_of_le hi e.size) (.inl (by omega))).trans (e.block i hi)⟩
theorem Gap.blk {lo hi g : Nat} {a b : World} {t : TypeId} {cs : Array Value} (h : Gap lo hi a b) (hB : Blk a g t cs) (hg : g < lo ∨ hi ≤ g) : Blk b g t cs := (h.block g hB.lt hg).trans hB
theorem Gap.own {α : Type} {enc : α → List Value} {sz base lo hi : Nat} {e : TypeId} {a b : World} {v : Value} {l : List α} (h : Gap lo hi a b) (ho : Own enc e sz a base v l) (hb : hi ≤ base) : Own enc e sz b base v l := by
  obtain ⟨h1, h2⟩ := ho
  refine ⟨h1, ?_⟩
  rcases h2 with h2 | ⟨r, cap, cur, hv, hr, hh, rest⟩
  · exact Or.inl h2
  · exact Or.inr ⟨r, cap, cur, hv, hr, (h.block r (Array.getElem?_eq_some_iff.1 hh).1 (.inr (by omega))).trans hh, rest⟩
theorem own_form {α : Type} {enc : α → List Value} {sz : Nat} {e : TypeId} {W : World} {base : Nat} {v : Value} {l : List α} (h : Own enc e sz W base v l) : (v = .slice none 0 0 ∧ l = []) ∨ ∃ g cap cur, v = .slice (some ⟨g, 0, none⟩) l.length cap ∧ base ≤ g ∧ W.heap[g]? = some (.cells cur e (0, 0)) ∧ l.length ≤ cap ∧ cap ≤ maxLen ∧ cur.size = cap * sz ∧ cur.toList.take (l.length * sz) = l.flatMap enc := by
  rcases h.2 with ⟨h1, h2⟩ | ⟨g, cap, cur, h1, h2, h3, h4, h5, h6, h7⟩
  · exact .inl ⟨h1, List.eq_nil_of_length_eq_zero h2⟩
  · exact .inr ⟨g, cap, cur, h1, h2, h3, h4, h5, h6, h7⟩
theorem ext_grown {w w1 W : World} {g : Nat} (h : Ext w w1) (k : w1.grownBy W (some g)) (hg : w.heap.size ≤ g) : Ext w W :=
  ⟨k.os.trans h.os, k.tape.trans h.tape, k.output.trans h.output, Nat.le_trans h.size k.size, fun i hi => (k.block i (Nat.lt_of_lt_of_le hi h.size) (by intro e; injection e with e; omega)).trans (h.block i hi)⟩
theorem flat_set5 {α : Type} {enc : α → List Value} (henc : ∀ x, (enc x).length = 5) {x : α} {a b c d e : Value} (hx : enc x = [a, b, c, d, e]) : ∀ (l : List α) (i : Nat), i < l.length →
    (((((l.flatMap enc).set (i * 5) a).set (i * 5 + 1) b).set (i * 5 + 2) c).set (i * 5 + 3) d).set (i * 5 + 4) e = (l.set i x).flatMap enc
  | y :: l, 0, _ => by
    obtain ⟨p, q, r, s, t, hy⟩ : ∃ p q r s t, enc y = [p, q, r, s, t] := by
      match h : enc y, henc y with
      | [p, q, r, s, t], _ => exact ⟨p, q, r, s, t, rfl⟩
    simp [hy, hx]
  | y :: l, i + 1, h => by
    have ih := flat_set5 henc hx l i (by simpa using h)
    obtain ⟨p, q, r, s, t, hy⟩ : ∃ p q r s t, enc y = [p, q, r, s, t] := by
      match h : enc y, henc y with
      | [p, q, r, s, t], _ => exact ⟨p, q, r, s, t, rfl⟩
    rw [List.set_cons_succ, List.flatMap_cons, List.flatMap_cons, ← ih, hy]
    rw [show (i + 1) * 5 = i * 5 + 5 by omega]
    simp only [List.cons_append, List.nil_append, List.set_cons_succ, show i * 5 + 5 + 1 = i * 5 + 1 + 5 by omega, show i * 5 + 5 + 2 = i * 5 + 2 + 5 by omega, show i * 5 + 5 + 3 = i * 5 + 3 + 5 by omega, show i * 5 + 5 + 4 = i * 5 + 4 + 5 by omega]
theorem own_put5 {α : Type} {enc : α → List Value} (henc : ∀ x, (enc x).length = 5) {w : World} {base g n cap i : Nat} {t : TypeId} {m : List α} {x : α} {a b c d e : Value} (hx : enc x = [a, b, c, d, e])
    (h : Own enc t 5 w base (.slice (some ⟨g, 0, none⟩) n cap) m) (hn : n = m.length) (hi : i < n) :
    Own enc t 5 (((((w.setCell ⟨g, i * 5, none⟩ a).setCell ⟨g, i * 5 + 1, none⟩ b).setCell ⟨g, i * 5 + 2, none⟩ c).setCell ⟨g, i * 5 + 3, none⟩ d).setCell ⟨g, i * 5 + 4, none⟩ e) base (.slice (some ⟨g, 0, none⟩) n cap) (m.set i x) := by
  unfold Own at *
  rw [List.length_set, ← hn, ← flat_set5 henc hx m i (by omega)]
  rw [← hn] at h
  exact own_cellset (own_cellset (own_cellset (own_cellset (own_cellset h))))
end Go.Proofs.YtafdbgielmlihaaDoor
/- The walks of the layer chain's first functions: rising, numbers, slices' Index, Contains, IndexFunc at sales; the checks of a chain. -/
namespace Go.Proofs.YtafdbgielmlihaaDoor
open Go.RowKit Go.Shelf
set_option maxRecDepth 100000
set_option linter.unusedSimpArgs false

set_option maxHeartbeats 400000 in
theorem rising_any (l : List Int) (v : Value) (w : World) (hs : SlI w v l) :
    Calls Tryd.prog 148 #[v] w fun e w' => e = .returned (.bool (risingB 0 l)) ∧ Ext w w' := by
  obtain ⟨A, n, cp, rfl, hn, hlc, hcm⟩ := hs.form
  go_enter Tryd.func148, Tryd.ntmps148
  go_wp2
  go_loopg [3, 8] n (fun gg la s wr => ∃ (kk : Nat) (last : Int), kk ≤ n ∧ n - kk ≤ gg ∧ s = .int .i64 kk ∧ la = .int .i64 last ∧ 0 ≤ last ∧ last ≤ 9999 ∧ Aside (risingB 0 l = risingB last (l.drop kk)) ∧ Aside (Ext w wr))
  case atStart => exact ⟨0, 0, Nat.zero_le _, by omega, rfl, rfl, by omega, by omega, rfl, Ext.refl w⟩
  case round =>
    obtain ⟨kk, last, hkk, hg, rfl, rfl, h0, h9, RE, BW⟩ := hrel
    by_cases hlt : kk < n
    · have hltz : (kk : Int) < (n : Int) := by omega
      obtain ⟨b, off, x, rfl, hx, hb, hcell⟩ := hs.at_ hlt
      have c0 := SlI.cell hcell BW.out
      have HX := Lib.hid hx; clear hx hcell
      go_wp2_with fail
      refine (in1_any (last + 1) 9999 x _ _ (by simp) (by simp [go_sem])).mono ?_
      rintro e w' ⟨rfl, hb'⟩
      have hE := BW.out.trans ((Ext.al _ _).trans hb')
      have HE := Lib.hid hE; clear hE hb'
      cases hq : inB (last + 1) 9999 x
      · have HQ := Lib.hid hq; clear hq
        go_wp2
        go_ret
        exact ⟨ret_bool (by rw [RE.out, drop_at HX.out, risingB, HQ.out]; rfl), HE.out⟩
      · have hq' := hq
        unfold inB at hq'
        simp at hq'
        have h1 : 0 ≤ x := by omega
        have h2 : x ≤ 9999 := by omega
        have HQ := Lib.hid hq; clear hq hq'
        go_wp2
        go_roundg (n - (kk + 1))
        case measure => omega
        case rel => exact ⟨kk + 1, x, by omega, by omega, rfl, rfl, h1, h2, by show _ = _; rw [RE.out, drop_at HX.out, risingB, HQ.out]; rfl, HE.out⟩
    · have HE := Lib.hid (show kk = n by omega)
      go_wp2
      go_ret
      exact ⟨ret_bool (by rw [RE.out, List.drop_eq_nil_of_le (by have := HE.out; have := hn.out; omega)]; rfl), BW.out⟩

theorem info3x : (Tryd.prog.info? 3).map (fun i => (i.zero, i.size, i.bytes)) = some (some (.int .i64 0), 1, 8) := by kernel_rfl
theorem encI_one : ∀ x, ∀ u ∈ encI x, u.oneCell' = true := by intro x u hu; simp at hu; subst hu; rfl
theorem take_snoc {α : Type} {l : List α} {k : Nat} {x : α} (h : l[k]? = some x) : l.take (k + 1) = l.take k ++ [x] := by
  obtain ⟨hk, rfl⟩ := List.getElem?_eq_some_iff.1 h
  rw [List.take_succ_eq_append_getElem hk]
set_option maxHeartbeats 1000000 in
theorem numbers_any (l : List Sale) (v : Value) (w : World) (hs : SlL w v l) (hl : l.length ≤ 1000) :
    Calls Tryd.prog 86 #[v] w fun e w' => (∃ v', e = .returned v' ∧ Own encI 3 1 w' w.heap.size v' (l.map (·.number))) ∧ Ext w w' := by
  have HS := Lib.hid hs
  obtain ⟨A, n, cp, rfl, hn, hlc, hcm⟩ := hs.form
  have HNN := Lib.hid (show n ≤ 1000 by have := hn.out; omega)
  clear hs hl
  go_enter Tryd.func86, Tryd.ntmps86
  go_wp2
  go_loopg [3, 8] n (fun gg la s wr => ∃ (kk : Nat) (A1 : Option Addr) (n1 d1 : Nat), kk ≤ n ∧ n - kk ≤ gg ∧ s = .int .i64 kk ∧ la = .slice A1 n1 d1 ∧ Aside (Own encI 3 1 wr w.heap.size (.slice A1 n1 d1) ((l.take kk).map (·.number))) ∧ Aside (Ext w wr))
  case atStart => exact ⟨0, none, 0, 0, Nat.zero_le _, by omega, rfl, rfl, by show Own _ _ _ _ _ _ _; simpa using Own.nil _ _, Ext.refl w⟩
  case round =>
    obtain ⟨kk, A1, n1, d1, hkk, hg, rfl, rfl, OW, BW⟩ := hrel
    by_cases hlt : kk < n
    · have hltz : (kk : Int) < (n : Int) := by omega
      obtain ⟨b, off, x, rfl, hx, hb, hcell⟩ := HS.out.at_ hlt
      obtain ⟨c0, c1, c2, c3, c4⟩ := SlL.cells hcell BW.out
      have HX := Lib.hid hx; clear hx hcell
      have HLT := Lib.hid (show (l.take kk).length = kk ∧ kk ≤ 1000 by have := HNN.out; have := hn.out; rw [List.length_take]; omega)
      go_wp2_with (at_builtin; refine wpList_app encI 22 3 1 _ 8 Tryd.underlying22 info3x rfl (by decide) (by decide) (fun _ => rfl) encI_one rfl (.tmp 12) (.tmp 15) rfl w.heap.size _ ((l.take kk).map (·.number)) rfl ((OW.out.alloc _).alloc _) (wr.heap.size + 1) 1 x.number rfl (cells1 (by simp [go_sem])) (by have := HLT.out; simp; omega) (by have := BW.out.size; simp; omega) ?_)
      intro g cap w1 hown hg1 hbel hgr
      have HO := Lib.hid (show Own encI 3 1 w1 w.heap.size (.slice (some ⟨g, 0, none⟩) (kk + 1) cap) ((l.take (kk + 1)).map (·.number)) from by
        have h := hown
        rw [show min kk l.length = kk from by have := HLT.out.1; rwa [List.length_take] at this] at h
        rw [take_snoc HX.out, List.map_append]
        simpa [List.map_take] using h)
      have HB := Lib.hid (show Ext w w1 from Below.trans ((BW.out.alloc _).alloc _) hbel)
      clear hown hbel hgr
      go_wp2
      go_roundg (n - (kk + 1))
      case measure => omega
      case rel => exact ⟨kk + 1, _, _, _, by omega, by omega, by simp, rfl, by show Own _ _ _ _ _ _ _; rw [show min kk l.length = kk from by have := HLT.out.1; rwa [List.length_take] at this]; exact HO.out, HB.out⟩
    · have HE := Lib.hid (show kk = n by omega)
      go_wp2
      go_ret
      exact ⟨⟨_, rfl, by have := OW.out; rw [List.take_of_length_le (by have := HE.out; have := hn.out; omega)] at this; exact this⟩, BW.out⟩

set_option maxHeartbeats 400000 in
theorem f85_any (l : List Int) (x : Int) (v : Value) (w : World) (hs : SlI w v l) :
    Calls Tryd.prog 85 #[v, .int .i64 x] w fun e w' => e = .returned (.int .i64 (idxF (fun y => decide (x = y)) l)) ∧ Ext w w' := by
  obtain ⟨A, n, c, rfl, hn, hlc, hcm⟩ := hs.form
  go_enter Tryd.func85, Tryd.ntmps85
  go_wp2
  go_loopg [5, 8] n (fun gg _ s8 wr => ∃ kk : Nat, kk ≤ n ∧ n - kk ≤ gg ∧ s8 = .int .i64 kk ∧ Aside (Ext w wr) ∧ Aside (∀ j y, j < kk → l[j]? = some y → decide (x = y) = false))
  case atStart => exact ⟨0, Nat.zero_le _, by omega, rfl, Ext.refl w, fun j y hj => absurd hj (Nat.not_lt_zero _)⟩
  case round =>
    obtain ⟨kk, hkk, hg, rfl, BW, FA⟩ := hrel
    by_cases hlt : kk < n
    · have hltz : (kk : Int) < (n : Int) := by omega
      obtain ⟨b, off, y, rfl, hx, hb, hcell⟩ := hs.at_ hlt
      have c0 := SlI.cell hcell BW.out
      have HX := Lib.hid hx; clear hx hcell hs
      by_cases hq : x = y
      · have HQ := Lib.hid (show decide (x = y) = true by simp [hq])
        go_wp2
        go_ret
        exact ⟨by rw [idxF_some _ l kk y HX.out HQ.out FA.out]; rfl, BW.out⟩
      · have HQ := Lib.hid (show decide (x = y) = false by simp [hq])
        go_wp2
        go_roundg (n - (kk + 1))
        case measure => omega
        case rel => exact ⟨kk + 1, by omega, by omega, rfl, BW.out, fun j z hj hz => by
          rcases Nat.lt_succ_iff_lt_or_eq.1 hj with h | rfl
          · exact FA.out j z h hz
          · rw [HX.out] at hz; cases hz; exact HQ.out⟩
    · have HE := Lib.hid (show kk = n by omega); clear hs
      go_wp2
      go_ret
      exact ⟨by rw [idxF_none _ l (fun x hx => by obtain ⟨j, hj⟩ := List.getElem?_of_mem hx; exact FA.out j x (by have := (List.getElem?_eq_some_iff.1 hj).1; have := HE.out; have := hn.out; omega) hj)]; rfl, BW.out⟩
theorem has_any (l : List Int) (v : Value) (x : Int) (w : World) (hs : SlI w v l) :
    Calls Tryd.prog 92 #[v, .int .i64 x] w fun e w' => e = .returned (.bool (hasI l x)) ∧ Ext w w' := by
  have HS := Lib.hid hs
  obtain ⟨A, n, c, rfl, hn, hlc, hcm⟩ := hs.form
  have HI := Lib.hid (f85_any l x _ w HS.out)
  clear hs
  go_enter Tryd.func92, Tryd.ntmps92
  go_wp2_with fail
  refine HI.out.mono ?_
  rintro e w1 ⟨rfl, hE⟩
  have HE := Lib.hid hE; clear hE
  go_wp2
  go_ret
  exact ⟨ret_bool (idxF_any _ l), HE.out⟩

set_option maxHeartbeats 400000 in
theorem f127_any (g : FuncId) (cap : Array Value) (eg : ∀ args w, (callFunc g args).run Tryd.prog w = .ok (.enter g args) w) (p : Sale → Bool) (l : List Sale) (v : Value) (w : World) (hs : SlL w v l) (hp : Pred valL g cap p l w) :
    Calls Tryd.prog 127 #[v, .func (.func g) #[] cap] w fun e w' => e = .returned (.int .i64 (idxF p l)) ∧ Ext w w' := by
  obtain ⟨A, n, c, rfl, hn, hlc, hcm⟩ := hs.form
  have HP := Lib.hid hp; clear hp
  go_enter Tryd.func127, Tryd.ntmps127
  go_wp2
  go_loopg [5, 8] n (fun gg _ s8 wr => ∃ kk : Nat, kk ≤ n ∧ n - kk ≤ gg ∧ s8 = .int .i64 kk ∧ Aside (Ext w wr) ∧ Aside (∀ j y, j < kk → l[j]? = some y → p y = false))
  case atStart => exact ⟨0, Nat.zero_le _, by omega, rfl, Ext.refl w, fun j y hj => absurd hj (Nat.not_lt_zero _)⟩
  case round =>
    obtain ⟨kk, hkk, hg, rfl, BW, FA⟩ := hrel
    by_cases hlt : kk < n
    · have hltz : (kk : Int) < (n : Int) := by omega
      obtain ⟨b, off, x, rfl, hx, hb, hcell⟩ := hs.at_ hlt
      obtain ⟨c0, c1, c2, c3, c4⟩ := SlL.cells hcell BW.out
      have hcall := HP.out wr x (List.mem_of_getElem? hx) BW.out
      have HX := Lib.hid hx; clear hx hcell hs
      cases hq : p x with
      | true =>
        rw [hq] at hcall
        have HC := Lib.hid hcall; clear hcall
        have HQ := Lib.hid hq; clear hq
        go_wp2_with (go_at_fn g; refine HC.out.mono ?_; rintro e w' ⟨rfl, hb'⟩)
        go_ret
        exact ⟨by rw [idxF_some p l kk x HX.out HQ.out FA.out]; rfl, BW.out.trans hb'⟩
      | false =>
        rw [hq] at hcall
        have HC := Lib.hid hcall; clear hcall
        have HQ := Lib.hid hq; clear hq
        go_wp2_with (go_at_fn g; refine HC.out.mono ?_; rintro e w' ⟨rfl, hb'⟩)
        go_roundg (n - (kk + 1))
        case measure => omega
        case rel => exact ⟨kk + 1, by omega, by omega, rfl, BW.out.trans hb', fun j y hj hy => by
          rcases Nat.lt_succ_iff_lt_or_eq.1 hj with h | rfl
          · exact FA.out j y h hy
          · rw [HX.out] at hy; cases hy; exact HQ.out⟩
    · have HE := Lib.hid (show kk = n by omega); clear hs
      go_wp2
      go_ret
      exact ⟨by rw [idxF_none p l (fun x hx => by obtain ⟨j, hj⟩ := List.getElem?_of_mem hx; exact FA.out j x (by have := (List.getElem?_eq_some_iff.1 hj).1; have := HE.out; have := hn.out; omega) hj)]; rfl, BW.out⟩
theorem f150_any (g : FuncId) (cap : Array Value) (eg : ∀ args w, (callFunc g args).run Tryd.prog w = .ok (.enter g args) w) (p : Sale → Bool) (l : List Sale) (v : Value) (w : World) (hs : SlL w v l) (hp : Pred valL g cap p l w) :
    Calls Tryd.prog 150 #[v, .func (.func g) #[] cap] w fun e w' => e = .returned (.bool (l.any p)) ∧ Ext w w' := by
  have HP := Lib.hid hp; clear hp
  have HS := Lib.hid hs; clear hs
  go_enter Tryd.func150, Tryd.ntmps150
  go_wp2_with (go_at_call 127; refine (f127_any g cap eg p l v _ HS.out HP.out).mono ?_; rintro e w' ⟨rfl, hb'⟩)
  go_ret
  exact ⟨ret_bool (idxF_any p l), hb'⟩

/-! The checks. -/
set_option maxHeartbeats 1000000 in
theorem f151_any (H : List Int) (A : Option Addr) (n c bc : Nat) (x : Sale) (w : World) (hb : w.cell? ⟨bc, 0, none⟩ = some (.slice A n c)) (hs : SlI w (.slice A n c) H) :
    Calls Tryd.prog 151 #[valL x, .pointer (some ⟨bc, 0, none⟩)] w fun e w' => e = .returned (.bool (badS H x)) ∧ Ext w w' := by
  have HS := Lib.hid hs
  have hlt := (is_cells hb).1
  have HB := Lib.hid hb
  clear hs
  dsimp only [valL]
  have hK : Later (w.alloc (.cells #[.int .i64 x.number, .int .i64 x.seller, .int .i64 x.buyer, .int .i64 x.bales, .int .i64 x.price] 68)) fun W => W.cell? ⟨bc, 0, none⟩ = some (.slice A n c) ∧ (W.cell? ⟨w.heap.size, 0, none⟩ = some (.int .i64 x.number) ∧ W.cell? ⟨w.heap.size, 1, none⟩ = some (.int .i64 x.seller) ∧ W.cell? ⟨w.heap.size, 2, none⟩ = some (.int .i64 x.buyer) ∧ W.cell? ⟨w.heap.size, 3, none⟩ = some (.int .i64 x.bales) ∧ W.cell? ⟨w.heap.size, 4, none⟩ = some (.int .i64 x.price) ∧ (∀ i, W.frozen? ⟨w.heap.size, i, none⟩ = false) ∧ w.heap.size < W.heap.size) ∧ bc < W.heap.size ∧ SlI W (.slice A n c) H := fun W hW =>
    ⟨(Ext.cell1 ((Ext.al _ _).trans hW) hb), ((Blk.new _ _ _).ext hW).c5, by have := hW.size; simp at this; omega, HS.out.ext ((Ext.al _ _).trans hW)⟩
  have HK := Lib.hid hK; clear hK
  cases e0 : (x.seller == x.buyer) with
  | true =>
    have E0 := Lib.hid (show decide (x.seller = x.buyer) = true by simpa using e0)
    go_enter Tryd.func151, Tryd.ntmps151
    go_wp2
    go_ret
    exact ⟨ret_bool (by unfold badS; rw [E0.out]; simp), Ext.al _ _⟩
  | false =>
    have E0 := Lib.hid (show decide (x.seller = x.buyer) = false by simpa using e0)
    go_enter Tryd.func151, Tryd.ntmps151
    go_wp2_with fail
    refine (has_any H _ x.seller _ (HK.out _ (Ext.refl _)).2.2.2).mono ?_
    rintro e w1 ⟨rfl, hE⟩
    have HE := Lib.hid hE; clear hE hb
    obtain ⟨k0, k1, k2, -⟩ := HK.out _ HE.out
    cases hA : hasI H x.seller with
    | false =>
      have HA := Lib.hid hA; clear hA
      go_wp2
      go_ret
      exact ⟨ret_bool (by unfold badS; rw [HA.out]; simp), (Ext.al _ _).trans HE.out⟩
    | true =>
      have HA := Lib.hid hA; clear hA
      go_wp2_with fail
      refine (has_any H _ x.buyer _ (HK.out _ HE.out).2.2.2).mono ?_
      rintro e w2 ⟨rfl, hE⟩
      have HE2 := Lib.hid (HE.out.trans hE); clear hE HE k0 k1 k2
      obtain ⟨k0, k1, k2, -⟩ := HK.out _ HE2.out
      cases hB : hasI H x.buyer with
      | false =>
        have HB2 := Lib.hid hB; clear hB
        go_wp2
        go_ret
        exact ⟨ret_bool (by unfold badS; rw [HB2.out]; simp), (Ext.al _ _).trans HE2.out⟩
      | true =>
        have HB2 := Lib.hid hB; clear hB
        go_wp2_with fail
        refine (in1_any 1 9 x.bales _ _ (by simp) (by simp [go_sem])).mono ?_
        rintro e w3 ⟨rfl, hE⟩
        have HE3 := Lib.hid ((HE2.out.alloc _).trans hE); clear hE HE2 k0 k1 k2
        obtain ⟨k0, k1, k2, -⟩ := HK.out _ HE3.out
        cases hC : inB 1 9 x.bales with
        | false =>
          have HC := Lib.hid hC; clear hC
          go_wp2
          go_ret
          exact ⟨ret_bool (by unfold badS; rw [HC.out]; simp), (Ext.al _ _).trans HE3.out⟩
        | true =>
          have HC := Lib.hid hC; clear hC
          go_wp2_with fail
          refine (in1_any 0 1000000 x.price _ _ (by simp) (by simp [go_sem])).mono ?_
          rintro e w4 ⟨rfl, hE⟩
          have HE4 := Lib.hid ((HE3.out.alloc _).trans hE); clear hE HE3 k0 k1 k2
          go_wp2
          go_ret
          exact ⟨ret_bool (by unfold badS; rw [E0.out, HA.out, HB2.out, HC.out]; simp), (Ext.al _ _).trans HE4.out⟩
end Go.Proofs.YtafdbgielmlihaaDoor
/- The walks of chain.right and chain.Check, and of the reference's House, Sale, chained, Chain, Check, Great. -/
namespace Go.Proofs.YtafdbgielmlihaaDoor
open Go.RowKit Go.Shelf
set_option maxRecDepth 100000
set_option linter.unusedSimpArgs false

theorem f149_any (c : Chn) (hv sv : Value) (w : World) (hh : SlI w hv c.houses) (hs : SlL w sv c.sales) :
    Calls Tryd.prog 149 #[valC hv sv] w fun e w' => e = .returned (.bool (!(c.sales.any (badS c.houses)))) ∧ Ext w w' := by
  have HH := Lib.hid hh
  have HS := Lib.hid hs
  obtain ⟨A, n, cp, rfl, hn, hlc, hcm⟩ := hh.form
  obtain ⟨A2, n2, cp2, rfl, hn2, hlc2, hcm2⟩ := hs.form
  clear hh hs
  go_enter Tryd.func149, Tryd.ntmps149
  go_wp2_with fail
  refine (f150_any 151 _ (enters_of Tryd.func151 (by kernel_rfl) rfl) (badS c.houses) c.sales _ _ (HS.out.ext (Ext.al _ _)) ?_).mono ?_
  · intro W x _ hW
    exact f151_any c.houses A n cp w.heap.size x W (Ext.cell1 hW (by simp [go_sem])) (HH.out.ext ((Ext.al _ _).trans hW))
  rintro e w1 ⟨rfl, hE⟩
  generalize hr : c.sales.any (badS c.houses) = r
  have HR := Lib.hid hr; clear hr
  go_wp2
  go_ret
  exact ⟨ret_bool (congrArg (!·) HR.out.symm), (Ext.al _ _).trans hE⟩

def chkA (c : Chn) : Bool := decide (c.houses.length ≤ 6) && risingB 0 c.houses && risingB 0 (c.sales.map (·.number))
set_option maxHeartbeats 400000 in
theorem f147_any (c : Chn) (hv sv : Value) (w : World) (hh : SlI w hv c.houses) (hs : SlL w sv c.sales) (hl : c.sales.length ≤ 1000) :
    Calls Tryd.prog 147 #[valC hv sv] w fun e w' => e = .returned (.bool (chkA c)) ∧ Ext w w' := by
  have HH := Lib.hid hh
  have HS := Lib.hid hs
  have HL := Lib.hid hl
  obtain ⟨A, n, cp, rfl, hn, hlc, hcm⟩ := hh.form
  obtain ⟨A2, n2, cp2, rfl, hn2, hlc2, hcm2⟩ := hs.form
  clear hh hs hl
  by_cases h6 : (n : Int) ≤ 6
  · have D := Lib.hid (show decide (c.houses.length ≤ 6) = true by have := hn.out; simp; omega)
    go_enter Tryd.func147, Tryd.ntmps147
    go_wp2_with fail
    refine (rising_any c.houses _ _ (HH.out.ext (Ext.al _ _))).mono ?_
    rintro e w1 ⟨rfl, hE⟩
    obtain ⟨hc, hf, hz, HE⟩ := hE.use
    simp at hz
    have hz1 : w.heap.size < w1.heap.size := by omega
    have HE1 := Lib.hid ((Ext.al w _).trans HE.out); clear hE HE
    cases hA : risingB 0 c.houses with
    | false =>
      have HA := Lib.hid hA; clear hA
      go_wp2
      go_ret
      exact ⟨ret_bool (by unfold chkA; rw [D.out, HA.out]; rfl), HE1.out⟩
    | true =>
      have HA := Lib.hid hA; clear hA
      go_wp2_with fail
      refine (numbers_any c.sales _ _ (HS.out.ext HE1.out) HL.out).mono ?_
      rintro e w2 ⟨⟨v', rfl, hown⟩, hE⟩
      have HO := Lib.hid (show SlI w2 v' (c.sales.map (·.number)) from hown.sl (fun _ => rfl))
      have HE2 := Lib.hid (HE1.out.trans hE); clear hE hown
      go_wp2_with fail
      refine (rising_any _ _ _ HO.out).mono ?_
      rintro e w3 ⟨rfl, hE⟩
      have HE3 := Lib.hid (HE2.out.trans hE); clear hE
      go_wp2
      go_ret
      exact ⟨ret_bool (by unfold chkA; rw [D.out, HA.out]; rfl), HE3.out⟩
  · have D := Lib.hid (show decide (c.houses.length ≤ 6) = false by have := hn.out; simp; omega)
    go_enter Tryd.func147, Tryd.ntmps147
    go_wp2
    go_ret
    exact ⟨ret_bool (by unfold chkA; rw [D.out]; rfl), Ext.al _ _⟩

/-- The table of checks, as the program lays it. -/
def Tab (w : World) : Prop := 0 < w.heap.size ∧ w.cell? ⟨0, 0, none⟩ = some (.func (.func 147) #[] #[]) ∧ w.cell? ⟨0, 1, none⟩ = some (.func (.func 149) #[] #[])
theorem Tab.ext {w w' : World} (h : Tab w) (e : Ext w w') : Tab w' := by
  obtain ⟨h0, h1, h2⟩ := h
  exact ⟨Nat.lt_of_lt_of_le h0 e.size, (e.cells.1 _ _ h0).trans h1, (e.cells.1 _ _ h0).trans h2⟩
theorem tab_i0 (W : World) : Sem.run Tryd.prog (Instr.index 149 (.agg #[.func (.func 147) #[] #[], .func (.func 149) #[] #[]]) (.int .i64 0)) W = .ok (.agg #[.func (.func 147) #[] #[]]) W := by kernel_rfl
theorem tab_i1 (W : World) : Sem.run Tryd.prog (Instr.index 149 (.agg #[.func (.func 147) #[] #[], .func (.func 149) #[] #[]]) (.int .i64 1)) W = .ok (.agg #[.func (.func 149) #[] #[]]) W := by kernel_rfl
def errB (ok : Bool) (e : Int) : Int := if ok then 0 else e

set_option maxHeartbeats 1000000 in
theorem right_any (c : Chn) (hv sv : Value) (w : World) (hT : Tab w) (hh : SlI w hv c.houses) (hs : SlL w sv c.sales) (hl : c.sales.length ≤ 1000) :
    Calls Tryd.prog 78 #[valC hv sv] w fun e w' => e = .returned (.bool (rightP c)) ∧ Ext w w' := by
  have i0 := tab_i0
  have i1 := tab_i1
  have HH := Lib.hid hh
  have HS := Lib.hid hs
  have HL := Lib.hid hl
  obtain ⟨A, n, cp, rfl, hn, hlc, hcm⟩ := hh.form
  obtain ⟨A2, n2, cp2, rfl, hn2, hlc2, hcm2⟩ := hs.form
  obtain ⟨h0, t0, t1⟩ := hT
  clear hh hs hl
  go_enter Tryd.func78, Tryd.ntmps78
  go_wp2
  go_loopg [6] 2 (fun gg s wr => ∃ i : Int, s = .int .i64 i ∧ (i = 0 ∨ i = 1 ∨ i = 2) ∧ (2 - i).toNat ≤ gg ∧ Aside ((0 < i → chkA c = true) ∧ (1 < i → (!(c.sales.any (badS c.houses))) = true)) ∧
    Aside (Ext (w.alloc (.cells #[.slice A n cp, .slice A2 n2 cp2] 25)) wr))
  case atStart => exact ⟨0, rfl, .inl rfl, by omega, ⟨by omega, by omega⟩, Ext.refl _⟩
  case round =>
    obtain ⟨i, rfl, hi, hg, CH, BW⟩ := hrel
    obtain ⟨hc, hf, hz, -⟩ := BW.out.use
    simp at hz
    have hz1 : w.heap.size < wr.heap.size := by omega
    have HE := Lib.hid (show Ext w wr from (Ext.al _ _).trans BW.out)
    have HR := Lib.hid (show rightP c = (chkA c && !(c.sales.any (badS c.houses))) from rfl)
    rcases hi with rfl | rfl | rfl
    · go_wp2_with fail
      refine (f147_any c _ _ _ (HH.out.ext (HE.out.trans (Ext.al _ _))) (HS.out.ext (HE.out.trans (Ext.al _ _))) HL.out).mono ?_
      rintro e w' ⟨rfl, hb'⟩
      have E2 := Lib.hid ((BW.out.trans (Ext.al _ _)).trans hb'); clear hb'
      cases hq : chkA c
      · have HQ := Lib.hid hq; clear hq
        go_wp2
        go_ret
        exact ⟨ret_bool (by rw [HR.out, HQ.out]; rfl), (Ext.al _ _).trans E2.out⟩
      · have HQ := Lib.hid hq; clear hq
        go_wp2
        go_roundg 1
        case measure => omega
        case rel => exact ⟨1, rfl, by omega, by omega, ⟨fun _ => HQ.out, by omega⟩, E2.out⟩
    · go_wp2_with fail
      refine (f149_any c _ _ _ (HH.out.ext (HE.out.trans (Ext.al _ _))) (HS.out.ext (HE.out.trans (Ext.al _ _)))).mono ?_
      rintro e w' ⟨rfl, hb'⟩
      have E2 := Lib.hid ((BW.out.trans (Ext.al _ _)).trans hb'); clear hb'
      cases hq : (!(c.sales.any (badS c.houses)))
      · have HQ := Lib.hid hq; clear hq
        go_wp2
        go_ret
        exact ⟨ret_bool (by rw [HR.out, HQ.out, CH.out.1 (by omega)]; rfl), (Ext.al _ _).trans E2.out⟩
      · have HQ := Lib.hid hq; clear hq
        go_wp2
        go_roundg 0
        case measure => omega
        case rel => exact ⟨2, rfl, by omega, by omega, ⟨fun _ => CH.out.1 (by omega), fun _ => HQ.out⟩, E2.out⟩
    · go_wp2
      go_ret
      exact ⟨ret_bool (by rw [HR.out, CH.out.1 (by omega), CH.out.2 (by omega)]; rfl), HE.out⟩

theorem check_any (c : Chn) (hv sv : Value) (w : World) (hT : Tab w) (hh : SlI w hv c.houses) (hs : SlL w sv c.sales) (hl : c.sales.length ≤ 1000) :
    Calls Tryd.prog 24 #[valC hv sv] w fun e w' => e = .returned (.int .i64 (errB (checkP c) 60)) ∧ Ext w w' := by
  have HT := Lib.hid hT
  have HH := Lib.hid hh
  have HS := Lib.hid hs
  have HL := Lib.hid hl
  obtain ⟨A, n, cp, rfl, hn, hlc, hcm⟩ := hh.form
  obtain ⟨A2, n2, cp2, rfl, hn2, hlc2, hcm2⟩ := hs.form
  clear hh hs hl hT
  by_cases h10 : (10 : Int) < n2
  · have D := Lib.hid (show decide (c.sales.length ≤ 10) = false by have := hn2.out; simp; omega)
    go_enter Tryd.func24, Tryd.ntmps24
    go_wp2
    go_ret
    exact ⟨ret_int (by unfold checkP; rw [D.out]; rfl), Ext.al _ _⟩
  · have D := Lib.hid (show decide (c.sales.length ≤ 10) = true by have := hn2.out; simp; omega)
    go_enter Tryd.func24, Tryd.ntmps24
    go_wp2_with fail
    refine (right_any c _ _ _ (HT.out.ext (Ext.al _ _)) (HH.out.ext (Ext.al _ _)) (HS.out.ext (Ext.al _ _)) HL.out).mono ?_
    rintro e w1 ⟨rfl, hE⟩
    have HE := Lib.hid ((Ext.al _ _).trans hE); clear hE
    cases hq : rightP c
    all_goals
      have HQ := Lib.hid hq; clear hq
      go_wp2
      go_ret
      exact ⟨ret_int (by unfold checkP; rw [D.out, HQ.out]; rfl), HE.out⟩

/-! The reference's. -/
theorem within_any (n lo hi : Int) (w : World) : Calls Tryd.prog 91 #[.int .i64 n, .int .i64 lo, .int .i64 hi] w fun e w' => e = .returned (.bool (inB lo hi n)) ∧ w = w' := by
  go_enter Tryd.func91, Tryd.ntmps91
  go_wp2
  all_goals go_ret
  all_goals exact ⟨ret_bool (by unfold inB; first | (simp [*]; done) | (simp [*]; omega)), rfl⟩

set_option maxHeartbeats 400000 in
theorem house_any (c : Chn) (id : Int) (hv sv : Value) (w : World) (hh : SlI w hv c.houses) (hs : SlL w sv c.sales) :
    Calls Tryd.prog 64 #[valC hv sv, .int .i64 id] w fun e w' => e = .returned (.int .i64 (houseI c id)) ∧ Ext w w' := by
  have HH := Lib.hid hh
  obtain ⟨A, n, cp, rfl, hn, hlc, hcm⟩ := hh.form
  obtain ⟨A2, n2, cp2, rfl, hn2, hlc2, hcm2⟩ := hs.form
  clear hh hs
  go_enter Tryd.func64, Tryd.ntmps64
  go_wp2
  go_loopg [5] n (fun gg s wr => ∃ kk : Nat, kk ≤ n ∧ n - kk ≤ gg ∧ s = .int .i64 kk ∧ Aside (Ext (w.alloc (.cells #[.slice A n cp, .slice A2 n2 cp2] 25)) wr) ∧ Aside (∀ j y, j < kk → c.houses[j]? = some y → decide (y = id) = false))
  case atStart => exact ⟨0, Nat.zero_le _, by omega, rfl, Ext.refl _, fun j y hj => absurd hj (Nat.not_lt_zero _)⟩
  case round =>
    obtain ⟨kk, hkk, hg, rfl, BW, FA⟩ := hrel
    obtain ⟨hc, hf, hz, -⟩ := BW.out.use
    simp at hz
    have hz1 : w.heap.size < wr.heap.size := by omega
    by_cases hlt : kk < n
    · have hltz : (kk : Int) < (n : Int) := by omega
      obtain ⟨b, off, y, rfl, hx, hb, hcell⟩ := HH.out.at_ hlt
      have c0 := SlI.cell hcell ((Ext.al _ _).trans BW.out)
      have HX := Lib.hid hx; clear hx hcell hb
      by_cases hq : y = id
      · have HQ := Lib.hid (show decide (y = id) = true by simp [hq])
        go_wp2
        go_ret
        exact ⟨by unfold houseI; rw [idxF_some _ _ kk y HX.out HQ.out FA.out]; rfl, (Ext.al _ _).trans BW.out⟩
      · have HQ := Lib.hid (show decide (y = id) = false by simp [hq])
        go_wp2
        go_roundg (n - (kk + 1))
        case measure => omega
        case rel => exact ⟨kk + 1, by omega, by omega, by simp, BW.out, fun j z hj hz => by
          rcases Nat.lt_succ_iff_lt_or_eq.1 hj with h | rfl
          · exact FA.out j z h hz
          · rw [HX.out] at hz; cases hz; exact HQ.out⟩
    · have HE := Lib.hid (show kk = n by omega)
      go_wp2
      go_ret
      exact ⟨by unfold houseI; rw [idxF_none _ _ (fun x hx => by obtain ⟨j, hj⟩ := List.getElem?_of_mem hx; exact FA.out j x (by have := (List.getElem?_eq_some_iff.1 hj).1; have := HE.out; have := hn.out; omega) hj)]; rfl, (Ext.al _ _).trans BW.out⟩

def greatB (c : Chn) : Bool := decide (15 < (c.houses.length : Int)) || decide (30 < (c.sales.length : Int))
theorem great_any (c : Chn) (hv sv : Value) (w : World) (hh : SlI w hv c.houses) (hs : SlL w sv c.sales) :
    Calls Tryd.prog 18 #[valC hv sv] w fun e w' => e = .returned (.bool (greatB c)) ∧ Ext w w' := by
  obtain ⟨A, n, cp, rfl, hn, hlc, hcm⟩ := hh.form
  obtain ⟨A2, n2, cp2, rfl, hn2, hlc2, hcm2⟩ := hs.form
  clear hh hs
  go_enter Tryd.func18, Tryd.ntmps18
  go_wp2
  all_goals go_ret
  all_goals exact ⟨ret_bool (by unfold greatB; rw [← hn.out, ← hn2.out]; try simp [*]), Ext.al _ _⟩
end Go.Proofs.YtafdbgielmlihaaDoor
/- The walks of the reference's chained, Chain, Check, and of SameInts at equal lists. -/
namespace Go.Proofs.YtafdbgielmlihaaDoor
open Go.RowKit Go.Shelf
set_option maxRecDepth 100000
set_option linter.unusedSimpArgs false

set_option maxHeartbeats 4000000 in
theorem chained_any (c : Chn) (hv sv : Value) (w : World) (hh : SlI w hv c.houses) (hs : SlL w sv c.sales) :
    Calls Tryd.prog 105 #[valC hv sv] w fun e w' => e = .returned (.bool (chainedR c)) ∧ Ext w w' := by
  have HH := Lib.hid hh
  have HS := Lib.hid hs
  obtain ⟨A, n, cp, rfl, hn, hlc, hcm⟩ := hh.form
  obtain ⟨A2, n2, cp2, rfl, hn2, hlc2, hcm2⟩ := hs.form
  clear hh hs
  by_cases h6 : (6 : Int) < n
  · have D := Lib.hid (show decide (c.houses.length ≤ 6) = false by have := hn.out; simp; omega)
    go_enter Tryd.func105, Tryd.ntmps105
    go_wp2
    go_ret
    exact ⟨ret_bool (by unfold chainedR; rw [D.out]; rfl), Ext.al _ _⟩
  have D := Lib.hid (show decide (c.houses.length ≤ 6) = true by have := hn.out; simp; omega)
  go_enter Tryd.func105, Tryd.ntmps105
  go_wp2
  go_loopg [3, 15] n (fun gg la s wr => ∃ (kk : Nat) (last : Int), kk ≤ n ∧ n - kk ≤ gg ∧ s = .int .i64 kk ∧ la = .int .i64 last ∧ 0 ≤ last ∧ last ≤ 9999 ∧ Aside (risingB 0 c.houses = risingB last (c.houses.drop kk)) ∧ Aside (Ext (w.alloc (.cells #[.slice A n cp, .slice A2 n2 cp2] 25)) wr))
  case atStart => exact ⟨0, 0, Nat.zero_le _, by omega, rfl, rfl, by omega, by omega, rfl, Ext.refl _⟩
  case round =>
    obtain ⟨kk, last, hkk, hg, rfl, rfl, h0, h9, RE, BW⟩ := hrel
    obtain ⟨hc, hf, hz, -⟩ := BW.out.use
    simp at hz
    have hz1 : w.heap.size < wr.heap.size := by omega
    by_cases hlt : kk < n
    · have hltz : (kk : Int) < (n : Int) := by omega
      obtain ⟨bb, off, x, rfl, hx, hb, hcell⟩ := HH.out.at_ hlt
      have c0 := SlI.cell hcell ((Ext.al _ _).trans BW.out)
      have HX := Lib.hid hx; clear hx hcell hb
      go_wp2_with fail
      refine (within_any x (last + 1) 9999 _).mono ?_
      rintro e w1 ⟨rfl, rfl⟩
      cases hq : inB (last + 1) 9999 x
      · have HQ := Lib.hid hq; clear hq
        go_wp2
        go_ret
        exact ⟨ret_bool (by unfold chainedR; rw [RE.out, drop_at HX.out, risingB, HQ.out]; simp), (Ext.al _ _).trans BW.out⟩
      have hq' := hq
      unfold inB at hq'
      simp at hq'
      have i1 : 0 ≤ x := by omega
      have i2 : x ≤ 9999 := by omega
      have HQ := Lib.hid hq; clear hq hq'
      go_wp2
      go_roundg (n - (kk + 1))
      case measure => omega
      case rel => exact ⟨kk + 1, x, by omega, by omega, by simp, rfl, i1, i2, by show _ = _; rw [RE.out, drop_at HX.out, risingB, HQ.out]; rfl, BW.out⟩
    · have HK := Lib.hid (show kk = n by omega)
      have DD := Lib.hid (show risingB 0 c.houses = true by rw [RE.out, List.drop_eq_nil_of_le (by have := HK.out; have := hn.out; omega)]; rfl)
      obtain ⟨wo, hwo⟩ : ∃ wo : World, wo = wr := ⟨_, rfl⟩
      subst hwo
      go_wp2
      go_loopg [3, 29] n2 (fun gg la s wr => ∃ (kk : Nat) (last : Int), kk ≤ n2 ∧ n2 - kk ≤ gg ∧ s = .int .i64 kk ∧ la = .int .i64 last ∧ 0 ≤ last ∧ last ≤ 9999 ∧ Aside (salesR c 0 c.sales = salesR c last (c.sales.drop kk)) ∧ Aside (Ext (w.alloc (.cells #[.slice A n cp, .slice A2 n2 cp2] 25)) wr))
      case atStart => exact ⟨0, 0, Nat.zero_le _, by omega, rfl, rfl, by omega, by omega, rfl, BW.out⟩
      case round =>
        clear hc hf hz hz1
        obtain ⟨kk, last, hkk, hg, rfl, rfl, h0, h9, RE, BW⟩ := hrel
        obtain ⟨hc, hf, hz, -⟩ := BW.out.use
        simp at hz
        have hz1 : w.heap.size < wr.heap.size := by omega
        by_cases hlt : kk < n2
        · have hltz : (kk : Int) < (n2 : Int) := by omega
          obtain ⟨bb, off, x, rfl, hx, hb, hcell⟩ := HS.out.at_ hlt
          obtain ⟨c0, c1, c2, c3, c4⟩ := SlL.cells hcell ((Ext.al w _).trans BW.out)
          have HX := Lib.hid hx; clear hx hcell hb
          have HK0 := Lib.hid (show Later (wr.alloc (.cells #[.int .i64 x.number, .int .i64 x.seller, .int .i64 x.buyer, .int .i64 x.bales, .int .i64 x.price] 68)) (fun W => (W.cell? ⟨w.heap.size, 0, none⟩ = some (.slice A n cp) ∧ W.cell? ⟨w.heap.size, 1, none⟩ = some (.slice (some ⟨bb, off, none⟩) n2 cp2) ∧ (∀ i, W.frozen? ⟨w.heap.size, i, none⟩ = false) ∧ w.heap.size < W.heap.size) ∧ (W.cell? ⟨wr.heap.size, 0, none⟩ = some (.int .i64 x.number) ∧ W.cell? ⟨wr.heap.size, 1, none⟩ = some (.int .i64 x.seller) ∧ W.cell? ⟨wr.heap.size, 2, none⟩ = some (.int .i64 x.buyer) ∧ W.cell? ⟨wr.heap.size, 3, none⟩ = some (.int .i64 x.bales) ∧ W.cell? ⟨wr.heap.size, 4, none⟩ = some (.int .i64 x.price) ∧ (∀ i, W.frozen? ⟨wr.heap.size, i, none⟩ = false) ∧ wr.heap.size < W.heap.size)) from
            fun W hW => ⟨((((Blk.new _ _ _).ext BW.out).alloc _).ext hW).c2, ((Blk.new _ _ _).ext hW).c5⟩)
          have HEx := Lib.hid (show ∀ W, Ext (wr.alloc (.cells #[.int .i64 x.number, .int .i64 x.seller, .int .i64 x.buyer, .int .i64 x.bales, .int .i64 x.price] 68)) W → Ext w W from fun W hW => ((Ext.al w _).trans (BW.out.trans (Ext.al _ _))).trans hW)
          have HF := Lib.hid (show saleR c last x = false → chainedR c = false from fun h => by unfold chainedR; rw [RE.out, drop_at HX.out, salesR, h]; simp)
          go_wp2_with fail
          refine (within_any x.number (last + 1) 9999 _).mono ?_
          rintro e w1 ⟨rfl, rfl⟩
          cases hq : inB (last + 1) 9999 x.number
          · have HQ := Lib.hid hq; clear hq
            go_wp2
            go_ret
            exact ⟨ret_bool (HF.out (by unfold saleR; rw [HQ.out]; rfl)).symm, HEx.out _ (Ext.refl _)⟩
          have GA := Lib.hid hq; clear hq
          go_wp2_with fail
          refine (house_any c x.seller _ _ _ (HH.out.ext (HEx.out _ (Ext.refl _))) (HS.out.ext (HEx.out _ (Ext.refl _)))).mono ?_
          rintro e w1 ⟨rfl, hE⟩
          have HE1 := Lib.hid hE; clear hE c0 c1 c2 c3 c4 hc hf hz hz1
          obtain ⟨k0, k1⟩ := HK0.out _ HE1.out
          by_cases hs1 : houseI c x.seller < 0
          · have HQ := Lib.hid (show decide (0 ≤ houseI c x.seller) = false by simp; omega)
            go_wp2
            go_ret
            exact ⟨ret_bool (HF.out (by unfold saleR; rw [HQ.out]; simp)).symm, HEx.out _ HE1.out⟩
          have GB := Lib.hid (show decide (0 ≤ houseI c x.seller) = true by simp; omega)
          go_wp2_with fail
          refine (house_any c x.buyer _ _ _ (HH.out.ext (HEx.out _ HE1.out)) (HS.out.ext (HEx.out _ HE1.out))).mono ?_
          rintro e w2 ⟨rfl, hE⟩
          have HE2 := Lib.hid (HE1.out.trans hE); clear hE HE1 k0 k1
          obtain ⟨k0, k1⟩ := HK0.out _ HE2.out
          by_cases hs2 : houseI c x.buyer < 0
          · have HQ := Lib.hid (show decide (0 ≤ houseI c x.buyer) = false by simp; omega)
            go_wp2
            go_ret
            exact ⟨ret_bool (HF.out (by unfold saleR; rw [HQ.out]; simp)).symm, HEx.out _ HE2.out⟩
          have GC := Lib.hid (show decide (0 ≤ houseI c x.buyer) = true by simp; omega)
          cases e0 : (x.seller == x.buyer) with
          | true =>
            have E0 := Lib.hid (show decide (x.seller = x.buyer) = true by simpa using e0)
            go_wp2
            go_ret
            exact ⟨ret_bool (HF.out (by unfold saleR; rw [E0.out]; simp)).symm, HEx.out _ HE2.out⟩
          | false =>
            have E0 := Lib.hid (show decide (x.seller = x.buyer) = false by simpa using e0)
            go_wp2_with fail
            refine (within_any x.bales 1 9 _).mono ?_
            rintro e w1 ⟨rfl, rfl⟩
            cases hq : inB 1 9 x.bales
            · have HQ := Lib.hid hq; clear hq
              go_wp2
              go_ret
              exact ⟨ret_bool (HF.out (by unfold saleR; rw [HQ.out]; simp)).symm, HEx.out _ HE2.out⟩
            have GD := Lib.hid hq; clear hq
            go_wp2_with fail
            refine (within_any x.price 0 1000000 _).mono ?_
            rintro e w1 ⟨rfl, rfl⟩
            cases hq : inB 0 1000000 x.price
            · have HQ := Lib.hid hq; clear hq
              go_wp2
              go_ret
              exact ⟨ret_bool (HF.out (by unfold saleR; rw [HQ.out]; simp)).symm, HEx.out _ HE2.out⟩
            have GE := Lib.hid hq; clear hq
            have hq' := GA.out
            unfold inB at hq'
            simp at hq'
            have i1 : 0 ≤ x.number := by omega
            have i2 : x.number ≤ 9999 := by omega
            have HR := Lib.hid (show saleR c last x = true by unfold saleR; rw [GA.out, GB.out, GC.out, E0.out, GD.out, GE.out]; rfl)
            clear hq'
            go_wp2
            go_roundg (n2 - (kk + 1))
            case measure => omega
            case rel => exact ⟨kk + 1, x.number, by omega, by omega, by simp, rfl, i1, i2, by show _ = _; rw [RE.out, drop_at HX.out, salesR, HR.out]; rfl, (BW.out.trans (Ext.al _ _)).trans HE2.out⟩
        · have HK2 := Lib.hid (show kk = n2 by omega)
          go_wp2
          go_ret
          exact ⟨ret_bool (by unfold chainedR; rw [D.out, DD.out, RE.out, List.drop_eq_nil_of_le (by have := HK2.out; have := hn2.out; omega)]; rfl), (Ext.al w _).trans BW.out⟩

theorem refChain_any (c : Chn) (hv sv : Value) (w : World) (hh : SlI w hv c.houses) (hs : SlL w sv c.sales) :
    Calls Tryd.prog 73 #[valC hv sv] w fun e w' => e = .returned (.bool (checkP c)) ∧ Ext w w' := by
  have HH := Lib.hid hh
  have HS := Lib.hid hs
  have HR := Lib.hid (chain_eq c)
  obtain ⟨A, n, cp, rfl, hn, hlc, hcm⟩ := hh.form
  obtain ⟨A2, n2, cp2, rfl, hn2, hlc2, hcm2⟩ := hs.form
  clear hh hs
  by_cases h10 : (n2 : Int) ≤ 10
  · have D := Lib.hid (show decide (c.sales.length ≤ 10) = true by have := hn2.out; simp; omega)
    go_enter Tryd.func73, Tryd.ntmps73
    go_wp2_with fail
    refine (chained_any c _ _ _ (HH.out.ext (Ext.al _ _)) (HS.out.ext (Ext.al _ _))).mono ?_
    rintro e w1 ⟨rfl, hE⟩
    have HE := Lib.hid ((Ext.al _ _).trans hE); clear hE
    go_wp2
    go_ret
    exact ⟨ret_bool (by rw [← HR.out]; unfold chainR; rw [D.out]; rfl), HE.out⟩
  · have D := Lib.hid (show decide (c.sales.length ≤ 10) = false by have := hn2.out; simp; omega)
    go_enter Tryd.func73, Tryd.ntmps73
    go_wp2
    go_ret
    exact ⟨ret_bool (by rw [← HR.out]; unfold chainR; rw [D.out]; rfl), Ext.al _ _⟩
end Go.Proofs.YtafdbgielmlihaaDoor
/- Sums of numbers, the bales of all sales, a house's place: the program's, the reference's and the laws'. -/
namespace Go.Proofs.YtafdbgielmlihaaDoor
open Go.RowKit Go.Shelf Go.Lib
set_option maxRecDepth 100000
set_option linter.unusedSimpArgs false

theorem sumI_append (l m : List Int) : sumI (l ++ m) = sumI l + sumI m := by
  induction l with
  | nil => simp [sumI]
  | cons x l ih => simp only [List.cons_append, sumI, ih]; omega
theorem sumI_snoc {l : List Int} {k : Nat} {x : Int} (h : l[k]? = some x) : sumI (l.take (k + 1)) = sumI (l.take k) + x := by
  rw [take_snoc h, sumI_append]
  simp [sumI]
theorem sumI_bd {B : Int} (hB : 0 ≤ B) : ∀ (l : List Int), (∀ x ∈ l, -B ≤ x ∧ x ≤ B) → -(B * l.length) ≤ sumI l ∧ sumI l ≤ B * l.length
  | [], _ => by simp [sumI]
  | x :: l, h => by
    have h1 := h x (by simp)
    have h2 := sumI_bd hB l fun y hy => h y (by simp [hy])
    simp only [sumI, List.length_cons]
    rw [show ((l.length + 1 : Nat) : Int) = (l.length : Int) + 1 by omega, Int.mul_add, Int.mul_one]
    omega
/-- Numbers that are small enough to be added. -/
structure Mild (l : List Int) : Prop where
  n : l.length ≤ 1000
  b : ∀ x ∈ l, -1000000000 ≤ x ∧ x ≤ 1000000000
theorem Mild.take {l : List Int} (h : Mild l) (k : Nat) : -1000000000000 ≤ sumI (l.take k) ∧ sumI (l.take k) ≤ 1000000000000 := by
  have h1 := sumI_bd (B := 1000000000) (by decide) (l.take k) fun x hx => h.b x (List.mem_of_mem_take hx)
  have h2 : (l.take k).length ≤ 1000 := Nat.le_trans (by rw [List.length_take]; exact Nat.min_le_right _ _) h.n
  omega
set_option maxHeartbeats 400000 in
theorem f75_any (l : List Int) (v : Value) (w : World) (hs : SlI w v l) (hl : Mild l) :
    Calls Tryd.prog 75 #[v] w fun e w' => e = .returned (.int .i64 (sumI l)) ∧ Ext w w' := by
  have HS := Lib.hid hs
  obtain ⟨A, n, cp, rfl, hn, hlc, hcm⟩ := hs.form
  have HL := Lib.hid hl
  clear hs hl
  go_enter Tryd.func75, Tryd.ntmps75
  go_wp2
  go_loopg [3, 8] n (fun gg s3 s wr => ∃ (kk : Nat) (t : Int), kk ≤ n ∧ n - kk ≤ gg ∧ s = .int .i64 kk ∧ s3 = .int .i64 t ∧ -1000000000000 ≤ t ∧ t ≤ 1000000000000 ∧ Aside (t = sumI (l.take kk)) ∧ Aside (Ext w wr))
  case atStart => exact ⟨0, 0, Nat.zero_le _, by omega, rfl, rfl, by omega, by omega, rfl, Ext.refl w⟩
  case round =>
    obtain ⟨kk, t, hkk, hg, rfl, rfl, ht0, ht1, HT, BW⟩ := hrel
    by_cases hlt : kk < n
    · have hltz : (kk : Int) < (n : Int) := by omega
      obtain ⟨b, off, x, rfl, hx, hb, hcell⟩ := HS.out.at_ hlt
      have c0 := SlI.cell hcell BW.out
      have hxb := HL.out.b x (List.mem_of_getElem? hx)
      have HX := Lib.hid hx; clear hx hcell
      have HM := Lib.hid (HL.out.take (kk + 1))
      go_wp2
      go_roundg (n - (kk + 1))
      case measure => omega
      case rel =>
        have h1 := sumI_snoc HX.out
        have h2 := HM.out
        have h3 := HT.out
        exact ⟨kk + 1, t + x, by omega, by omega, by simp, rfl, by omega, by omega, by show _ = _; omega, BW.out⟩
    · have HE := Lib.hid (show kk = n by omega)
      go_wp2
      go_ret
      exact ⟨ret_int (by rw [HT.out, List.take_of_length_le (by have := HE.out; have := hn.out; omega)]), BW.out⟩
theorem bales_len (c : Chn) : (balesOf c).length = c.sales.length := by unfold balesOf; rw [List.length_map]
set_option maxHeartbeats 1000000 in
theorem f72_any (c : Chn) (hv sv : Value) (w : World) (hh : SlI w hv c.houses) (hs : SlL w sv c.sales) (hl : c.sales.length ≤ 1000) :
    Calls Tryd.prog 72 #[valC hv sv] w fun e w' => (∃ v', e = .returned v' ∧ Own encI 3 1 w' w.heap.size v' (balesOf c)) ∧ Ext w w' := by
  have HS := Lib.hid hs
  obtain ⟨A, n, cp, rfl, hn, hlc, hcm⟩ := hs.form
  obtain ⟨A0, n0, cp0, rfl, hn0, hlc0, hcm0⟩ := hh.form
  have HNN := Lib.hid (show n ≤ 1000 by have := hn.out; omega)
  clear hs hl hh
  go_enter Tryd.func72, Tryd.ntmps72
  have HB := Lib.hid (show Blk (w.alloc (.cells #[.slice A0 n0 cp0, .slice A n cp] 25)) w.heap.size 25 #[.slice A0 n0 cp0, .slice A n cp] from Blk.new _ _ _)
  go_wp2
  go_loopg [3, 9] n (fun gg la s wr => ∃ (kk : Nat) (A1 : Option Addr) (n1 d1 : Nat), kk ≤ n ∧ n - kk ≤ gg ∧ s = .int .i64 kk ∧ la = .slice A1 n1 d1 ∧ Aside (Own encI 3 1 wr w.heap.size (.slice A1 n1 d1) ((c.sales.take kk).map (·.bales))) ∧ Aside (Ext w wr))
  case atStart => exact ⟨0, none, 0, 0, Nat.zero_le _, by omega, rfl, rfl, by show Own _ _ _ _ _ _ _; simpa using Own.nil _ _, Ext.al w _⟩
  case round =>
    obtain ⟨kk, A1, n1, d1, hkk, hg, rfl, rfl, OW, BW⟩ := hrel
    by_cases hlt : kk < n
    · have hltz : (kk : Int) < (n : Int) := by omega
      obtain ⟨b, off, x, rfl, hx, hb, hcell⟩ := HS.out.at_ hlt
      obtain ⟨c0, c1, c2, c3, c4⟩ := SlL.cells hcell BW.out
      have HX := Lib.hid hx; clear hx hcell
      have HLT := Lib.hid (show (c.sales.take kk).length = kk ∧ kk ≤ 1000 by have := HNN.out; have := hn.out; rw [List.length_take]; omega)
      go_wp2_with (at_builtin; refine wpList_app encI 22 3 1 _ 8 Tryd.underlying22 info3x rfl (by decide) (by decide) (fun _ => rfl) encI_one rfl (.tmp 13) (.tmp 16) rfl w.heap.size _ ((c.sales.take kk).map (·.bales)) rfl ((OW.out.alloc _).alloc _) (wr.heap.size + 1) 1 x.bales rfl (cells1 (by simp [go_sem])) (by have := HLT.out; simp; omega) (by have := BW.out.size; simp; omega) ?_)
      intro g cap w1 hown hg1 hbel hgr
      have HO := Lib.hid (show Own encI 3 1 w1 w.heap.size (.slice (some ⟨g, 0, none⟩) (kk + 1) cap) ((c.sales.take (kk + 1)).map (·.bales)) from by
        have h := hown
        rw [show min kk c.sales.length = kk from by have := HLT.out.1; rwa [List.length_take] at this] at h
        rw [take_snoc HX.out, List.map_append]
        simpa [List.map_take] using h)
      have HB := Lib.hid (show Ext w w1 from Below.trans ((BW.out.alloc _).alloc _) hbel)
      clear hown hbel hgr
      go_wp2
      go_roundg (n - (kk + 1))
      case measure => omega
      case rel => exact ⟨kk + 1, _, _, _, by omega, by omega, by simp, rfl, by show Own _ _ _ _ _ _ _; rw [show min kk c.sales.length = kk from by have := HLT.out.1; rwa [List.length_take] at this]; exact HO.out, HB.out⟩
    · have HE := Lib.hid (show kk = n by omega)
      go_wp2
      go_ret
      exact ⟨⟨_, rfl, by have := OW.out; rw [List.take_of_length_le (by have := HE.out; have := hn.out; omega)] at this; exact this⟩, BW.out⟩
set_option maxHeartbeats 1000000 in
theorem f66_any (c : Chn) (hv sv : Value) (w : World) (hh : SlI w hv c.houses) (hs : SlL w sv c.sales) (hl : c.sales.length ≤ 1000) :
    Calls Tryd.prog 66 #[valC hv sv] w fun e w' => (∃ v', e = .returned v' ∧ Own encI 3 1 w' w.heap.size v' (balesOf c)) ∧ Ext w w' := by
  have HS := Lib.hid hs
  obtain ⟨A, n, cp, rfl, hn, hlc, hcm⟩ := hs.form
  obtain ⟨A0, n0, cp0, rfl, hn0, hlc0, hcm0⟩ := hh.form
  have HNN := Lib.hid (show n ≤ 1000 by have := hn.out; omega)
  clear hs hl hh
  go_enter Tryd.func66, Tryd.ntmps66
  have HB := Lib.hid (show Blk (w.alloc (.cells #[.slice A0 n0 cp0, .slice A n cp] 25)) w.heap.size 25 #[.slice A0 n0 cp0, .slice A n cp] from Blk.new _ _ _)
  go_wp2
  go_loopg [3, 9] n (fun gg la s wr => ∃ (kk : Nat) (A1 : Option Addr) (n1 d1 : Nat), kk ≤ n ∧ n - kk ≤ gg ∧ s = .int .i64 kk ∧ la = .slice A1 n1 d1 ∧ Aside (Own encI 3 1 wr w.heap.size (.slice A1 n1 d1) ((c.sales.take kk).map (·.bales))) ∧ Aside (Ext w wr))
  case atStart => exact ⟨0, none, 0, 0, Nat.zero_le _, by omega, rfl, rfl, by show Own _ _ _ _ _ _ _; simpa using Own.nil _ _, Ext.al w _⟩
  case round =>
    obtain ⟨kk, A1, n1, d1, hkk, hg, rfl, rfl, OW, BW⟩ := hrel
    by_cases hlt : kk < n
    · have hltz : (kk : Int) < (n : Int) := by omega
      obtain ⟨b, off, x, rfl, hx, hb, hcell⟩ := HS.out.at_ hlt
      obtain ⟨c0, c1, c2, c3, c4⟩ := SlL.cells hcell BW.out
      have HX := Lib.hid hx; clear hx hcell
      have HLT := Lib.hid (show (c.sales.take kk).length = kk ∧ kk ≤ 1000 by have := HNN.out; have := hn.out; rw [List.length_take]; omega)
      go_wp2_with (at_builtin; refine wpList_app encI 22 3 1 _ 8 Tryd.underlying22 info3x rfl (by decide) (by decide) (fun _ => rfl) encI_one rfl (.tmp 13) (.tmp 16) rfl w.heap.size _ ((c.sales.take kk).map (·.bales)) rfl ((OW.out.alloc _).alloc _) (wr.heap.size + 1) 1 x.bales rfl (cells1 (by simp [go_sem])) (by have := HLT.out; simp; omega) (by have := BW.out.size; simp; omega) ?_)
      intro g cap w1 hown hg1 hbel hgr
      have HO := Lib.hid (show Own encI 3 1 w1 w.heap.size (.slice (some ⟨g, 0, none⟩) (kk + 1) cap) ((c.sales.take (kk + 1)).map (·.bales)) from by
        have h := hown
        rw [show min kk c.sales.length = kk from by have := HLT.out.1; rwa [List.length_take] at this] at h
        rw [take_snoc HX.out, List.map_append]
        simpa [List.map_take] using h)
      have HB := Lib.hid (show Ext w w1 from Below.trans ((BW.out.alloc _).alloc _) hbel)
      clear hown hbel hgr
      go_wp2
      go_roundg (n - (kk + 1))
      case measure => omega
      case rel => exact ⟨kk + 1, _, _, _, by omega, by omega, by simp, rfl, by show Own _ _ _ _ _ _ _; rw [show min kk c.sales.length = kk from by have := HLT.out.1; rwa [List.length_take] at this]; exact HO.out, HB.out⟩
    · have HE := Lib.hid (show kk = n by omega)
      go_wp2
      go_ret
      exact ⟨⟨_, rfl, by have := OW.out; rw [List.take_of_length_le (by have := HE.out; have := hn.out; omega)] at this; exact this⟩, BW.out⟩
end Go.Proofs.YtafdbgielmlihaaDoor
/- A row of numbers in a block of its own; a house's place, and what each house gets: the program's market.house, market.gets, and the reference's Gets. -/
namespace Go.Proofs.YtafdbgielmlihaaDoor
open Go.RowKit Go.Shelf Go.Lib
set_option maxRecDepth 100000
set_option linter.unusedSimpArgs false

/-! A row that fills its block. -/
def intsA (m : List Int) : Array Value := (m.map fun x => Value.int .i64 x).toArray
def RowI (w : World) (g : Nat) (m : List Int) : Prop := Blk w g 3 (intsA m)
section
variable {w w' : World} {g : Nat} {m : List Int}
theorem RowI.lt (h : RowI w g m) : g < w.heap.size := Blk.lt h
theorem RowI.cell (h : RowI w g m) {i : Nat} {x : Int} (hx : m[i]? = some x) : w.cell? ⟨g, i, none⟩ = some (.int .i64 x) := by
  rw [Blk.cell h i]
  simp [intsA, hx]
theorem RowI.frozen (h : RowI w g m) (i : Nat) : w.frozen? ⟨g, i, none⟩ = false := Blk.frozen h i
theorem RowI.ext (h : RowI w g m) (e : Ext w w') : RowI w' g m := Blk.ext h e
theorem RowI.alloc (h : RowI w g m) (o : Obj) : RowI (w.alloc o) g m := Blk.alloc h o
theorem RowI.far (h : RowI w g m) {p : Addr} (hp : g ≠ p.block) (u : Value) : RowI (w.setCell p u) g m := Blk.far h hp u
theorem RowI.new (w : World) (m : List Int) : RowI (w.alloc (.cells (intsA m) 3)) w.heap.size m := Blk.new _ _ _
theorem RowI.set (h : RowI w g m) (i : Nat) (x : Int) : RowI (w.setCell ⟨g, i, none⟩ (.int .i64 x)) g (m.set i x) := by
  have h1 := Blk.set_ h i (.int .i64 x)
  have : (intsA m).setIfInBounds i (.int .i64 x) = intsA (m.set i x) := by
    unfold intsA
    rw [List.setIfInBounds_toArray, List.map_set]
  rw [this] at h1
  exact h1
theorem RowI.flat (m : List Int) : m.flatMap encI = (intsA m).toList := by
  unfold intsA
  rw [List.toList_toArray]
  induction m with
  | nil => rfl
  | cons x m ih => simp only [List.flatMap_cons, List.map_cons, ih]; rfl
theorem RowI.own (h : RowI w g m) {base : Nat} (hg : base ≤ g) (hl : m.length ≤ maxLen) : Own encI 3 1 w base (.slice (some ⟨g, 0, none⟩) m.length m.length) m := by
  refine ⟨enc_len (enc := encI) (fun _ => rfl) m, .inr ⟨g, m.length, intsA m, rfl, hg, h, Nat.le_refl _, hl, by simp [intsA], ?_⟩⟩
  rw [RowI.flat, List.take_of_length_le (by simp [intsA])]
theorem RowI.sl (h : RowI w g m) (hl : m.length ≤ maxLen) : SlI w (.slice (some ⟨g, 0, none⟩) m.length m.length) m := Own.sl (fun _ => rfl) (h.own (Nat.zero_le _) hl)
end
theorem run_makeI {n : Nat} (hn : n ≤ 1000000) (w : World) : (Instr.makeSlice 22 (.int .i64 (n : Int)) (.int .i64 (n : Int))).run Tryd.prog w = .ok (.slice (some ⟨w.heap.size, 0, none⟩) n n) (w.alloc (.cells (intsA (List.replicate n 0)) 3)) := by
  obtain ⟨i0, hi, hz0, hz1, hz2⟩ := info_parts info3x
  have h := run_make (P := Tryd.prog) w 22 3 i0 (.int .i64 0) Tryd.underlying22 hi hz0 .i64 .i64 (n : Int) (n : Int) (by omega) (Int.le_refl _) (by rw [hz2]; omega) (by omega)
  rw [h, hz1]
  have : madeCells (Value.int .i64 0).cells ((n : Int).toNat * 1) = intsA (List.replicate n 0) := by
    apply Array.ext
    · simp [madeCells, intsA]
    · intro i h1 h2
      simp [madeCells, intsA, Value.cells, Nat.mod_one]
  rw [this]
  rfl

/-! What each house gets. -/
theorem net_snoc (v : Nat) : ∀ (S : List Sal) (m : List Int) (x : Sal) (y : Int), S.length = m.length → net (S ++ [x]) (m ++ [y]) v = net S m v + y * (one (x.b = v) - one (x.s = v))
  | [], [], x, y, _ => by simp [net]
  | z :: S, a :: m, x, y, h => by
    simp only [List.cons_append, net]
    rw [net_snoc v S m x y (by simpa using h)]
    omega
  | [], _ :: _, _, _, h => by simp at h
  | _ :: _, [], _, _, h => by simp at h
theorem net_bd {B : Int} (v : Nat) (hB : 0 ≤ B) : ∀ (S : List Sal) (m : List Int), (∀ y ∈ m, -B ≤ y ∧ y ≤ B) → -(B * m.length) ≤ net S m v ∧ net S m v ≤ B * m.length
  | [], m, _ => by
    have : 0 ≤ B * (m.length : Int) := Int.mul_nonneg hB (by omega)
    simp only [net]; omega
  | z :: S, [], _ => by simp [net]
  | z :: S, a :: m, h => by
    have h1 := net_bd v hB S m fun y hy => h y (by simp [hy])
    have h2 := h a (by simp)
    have e : (B * ((a :: m).length : Int)) = B * m.length + B := by
      rw [List.length_cons, show ((m.length + 1 : Nat) : Int) = (m.length : Int) + 1 by omega, Int.mul_add, Int.mul_one]
    rw [e]
    simp only [net]
    have h3 : -B ≤ a * (one (z.b = v) - one (z.s = v)) ∧ a * (one (z.b = v) - one (z.s = v)) ≤ B := by
      unfold one
      split <;> split <;> simp <;> omega
    omega
/-- .. by the first kk sales. -/
def netTo (c : Chn) (m : List Int) (kk : Nat) : List Int := (List.range c.houses.length).map fun v => net ((salsOf c).take kk) (m.take kk) v
def getsL (c : Chn) (m : List Int) : List Int := (List.range c.houses.length).map fun v => net (salsOf c) m v
theorem netTo_len (c : Chn) (m : List Int) (kk : Nat) : (netTo c m kk).length = c.houses.length := by simp [netTo]
theorem netTo_zero (c : Chn) (m : List Int) : netTo c m 0 = List.replicate c.houses.length 0 := by
  apply List.ext_getElem
  · simp [netTo]
  · intro i h1 h2
    simp [netTo, net]
theorem netTo_all {c : Chn} {m : List Int} (hm : m.length = c.sales.length) : netTo c m c.sales.length = getsL c m := by
  unfold netTo getsL
  rw [List.take_of_length_le (by rw [sals_len]; exact Nat.le_refl _), List.take_of_length_le (by omega)]
theorem netTo_get {c : Chn} {m : List Int} {kk v : Nat} (hv : v < c.houses.length) : (netTo c m kk)[v]? = some (net ((salsOf c).take kk) (m.take kk) v) := by
  simp [netTo, hv]
theorem house_inj {c : Chn} {a b : Int} {i : Nat} (ha : houseI c a = i) (hb : houseI c b = i) : a = b := by
  unfold houseI at ha hb
  rcases idxF_cases (fun h => decide (h = a)) c.houses with ⟨e, _⟩ | ⟨k, x, e, hx, hp, _⟩
  · rw [e] at ha; omega
  · rcases idxF_cases (fun h => decide (h = b)) c.houses with ⟨e', _⟩ | ⟨k', x', e', hx', hp', _⟩
    · rw [e'] at hb; omega
    · rw [e] at ha
      rw [e'] at hb
      have : k = k' := by omega
      subst this
      rw [hx] at hx'
      injection hx' with hx'
      simp at hp hp'
      rw [← hp, ← hp', hx']
/-- What a sale does to it. -/
theorem netTo_step {c : Chn} {m : List Int} {kk s b : Nat} {x : Sale} {y A B : Int} (hm : m.length = c.sales.length) (hx : c.sales[kk]? = some x) (hy : m[kk]? = some y) (hs : houseI c x.seller = s) (hb : houseI c x.buyer = b) (hne : s ≠ b)
    (hA : net ((salsOf c).take kk) (m.take kk) s = A) (hB : net ((salsOf c).take kk) (m.take kk) b = B) :
    ((netTo c m kk).set s (A - y)).set b (B + y) = netTo c m (kk + 1) := by
  have hS : (salsOf c)[kk]? = some (salOf c x) := by unfold salsOf; rw [List.getElem?_map, hx]; rfl
  have hk : kk < c.sales.length := (List.getElem?_eq_some_iff.1 hx).1
  apply List.ext_getElem?
  intro v
  by_cases hv : v < c.houses.length
  · rw [List.getElem?_set, List.getElem?_set, netTo_get hv, netTo_get hv, take_snoc hS, take_snoc hy, net_snoc v _ _ _ _ (by rw [List.length_take, List.length_take, sals_len, hm])]
    simp only [salOf, hs, hb, Int.toNat_natCast]
    by_cases e1 : b = v
    · subst e1
      rw [if_pos rfl, if_pos (by simp [netTo_len]; omega)]
      unfold one
      rw [if_pos rfl, if_neg hne, hB]
      congr 1; omega
    · rw [if_neg e1]
      by_cases e2 : s = v
      · subst e2
        rw [if_pos rfl, if_pos (by simp [netTo_len]; omega)]
        unfold one
        rw [if_neg e1, if_pos rfl, hA]
        congr 1; omega
      · rw [if_neg e2]
        unfold one
        rw [if_neg e1, if_neg e2]
        congr 1; omega
  · rw [List.getElem?_eq_none (by simp [netTo_len]; omega), List.getElem?_eq_none (by simp [netTo_len]; omega)]
/-- The places of a sale's houses. -/
theorem sale_at {c : Chn} (hR : Right c) {kk : Nat} {x : Sale} (hx : c.sales[kk]? = some x) : ∃ s b : Nat, houseI c x.seller = s ∧ houseI c x.buyer = b ∧ s < c.houses.length ∧ b < c.houses.length ∧ s ≠ b := by
  obtain ⟨h1, h2, h3, _⟩ := hR.sale x (List.mem_of_getElem? hx)
  have a := houseI_lt h2
  have b := houseI_lt h3
  refine ⟨(houseI c x.seller).toNat, (houseI c x.buyer).toNat, by omega, by omega, by omega, by omega, fun e => h1 ?_⟩
  exact house_inj (c := c) (i := (houseI c x.seller).toNat) (by omega) (by omega)

/-! The market. -/
theorem mhouse_any (c : Chn) (id : Int) (k : Int) (mb : Nat) (hv sv mv cv : Value) (w : World) (hM : Blk w mb 112 #[hv, sv, mv, cv]) (hh : SlI w hv c.houses) (hk : houseI c id = k) :
    Calls Tryd.prog 84 #[.pointer (some ⟨mb, 0, none⟩), .int .i64 id] w fun e w' => e = .returned (.int .i64 k) ∧ Ext w w' := by
  obtain ⟨x0, x1, x2, x3, xf, xl⟩ := hM.c4
  have HH := Lib.hid hh
  have HK := Lib.hid (show idxF (fun y => decide (id = y)) c.houses = k by rw [← hk]; unfold houseI; congr 1; funext y; exact decide_eq_decide.2 eq_comm)
  obtain ⟨A, n, cp, rfl, hn, hlc, hcm⟩ := hh.form
  clear hh hk
  go_enter Tryd.func84, Tryd.ntmps84
  go_wp2_with fail
  refine (f85_any c.houses id _ _ HH.out).mono ?_
  rintro e w' ⟨rfl, hE⟩
  have HE := Lib.hid hE; clear hE
  rw [HK.out]
  go_wp2
  go_ret
  exact ⟨rfl, HE.out⟩
end Go.Proofs.YtafdbgielmlihaaDoor
