/- Copying by append onto an empty slice. -/
import Derived.Test.YtafdbgielmlihaaDoorTame
import Derived.Deep.Upon
namespace Go.Proofs.YtafdbgielmlihaaDoor
open Go.RowKit Go.Shelf Go.Lib

theorem Own.new {α : Type} {enc : α → List Value} {e : TypeId} {sz : Nat} {W : World} {base g : Nat} (h : Blk W g e #[]) (hb : base ≤ g) : Own enc e sz W base (.slice (some ⟨g, 0, none⟩) 0 0) ([] : List α) :=
  ⟨by simp, .inr ⟨g, 0, #[], rfl, hb, h, Nat.le_refl _, by decide, by simp, by simp⟩⟩
theorem enc_len {α : Type} {enc : α → List Value} {sz : Nat} (henc : ∀ x, (enc x).length = sz) : ∀ l : List α, (l.flatMap enc).length = l.length * sz
  | [] => by simp
  | x :: l => by rw [List.flatMap_cons, List.length_append, henc, enc_len henc l, List.length_cons, Nat.succ_mul, Nat.add_comm]
theorem flat_at {α : Type} {enc : α → List Value} {sz : Nat} (henc : ∀ x, (enc x).length = sz) (hsz : 0 < sz) : ∀ (l : List α) (j : Nat) (u : Value), (l.flatMap enc)[j]? = some u → ∃ x, l[j / sz]? = some x ∧ (enc x)[j % sz]? = some u
  | [], j, u, h => by simp at h
  | x :: l, j, u, h => by
    rw [List.flatMap_cons] at h
    by_cases hj : j < sz
    · rw [List.getElem?_append_left (by rw [henc]; exact hj)] at h
      exact ⟨x, by rw [Nat.div_eq_of_lt hj]; rfl, by rw [Nat.mod_eq_of_lt hj]; exact h⟩
    · rw [List.getElem?_append_right (by rw [henc]; omega), henc] at h
      obtain ⟨y, h1, h2⟩ := flat_at henc hsz l (j - sz) u h
      have hj' : j = (j - sz) + sz := by omega
      refine ⟨y, ?_, ?_⟩
      · rw [hj', Nat.add_div_right _ hsz]; simpa using h1
      · rw [hj', Nat.add_mod_right]; exact h2
theorem Sl.flat {α : Type} {enc : α → List Value} {sz : Nat} (henc : ∀ x, (enc x).length = sz) (hsz : 0 < sz) {W : World} {b off n c : Nat} {l : List α} (h : Sl enc sz W (.slice (some ⟨b, off, none⟩) n c) l) :
    ∀ j u, (l.flatMap enc)[j]? = some u → W.cell? ((⟨b, off, none⟩ : Addr).add j) = some u := by
  intro j u hu
  obtain ⟨x, h1, h2⟩ := flat_at henc hsz l j u hu
  obtain ⟨A', c', hv, hl, hc, hx⟩ := h
  injection hv with e1 e2 e3
  subst e2
  have hlt : j / sz < l.length := (List.getElem?_eq_some_iff.1 h1).1
  obtain ⟨b', off', hA, hb, hcell⟩ := hx (Nat.lt_of_le_of_lt (Nat.zero_le _) hlt)
  rw [hA] at e1
  injection e1 with e1
  injection e1 with e1 e4
  subst e1 e4
  have := hcell _ x h1 _ u h2
  rw [Addr.add_lit, Nat.add_assoc] at *
  rw [show j / sz * sz + j % sz = j by rw [Nat.mul_comm]; exact Nat.div_add_mod j sz] at this
  exact this
/-- append of a whole slice onto an empty one without room. -/
theorem run_copy {α : Type} {enc : α → List Value} {t ty e : TypeId} {sz : Nat} {z : Value} {bytes : Nat} (ht : Tryd.prog.underlying t = some (.slice e))
    (hinfo : (Tryd.prog.info? e).map (fun i => (i.zero, i.size, i.bytes)) = some (some z, sz, bytes)) (hzs : z.cells.size = sz) (hsz : 0 < sz) (hbytes : bytes ≤ 1000) (henc : ∀ x, (enc x).length = sz)
    {W : World} {base g : Nat} (hB : Blk W g e #[]) (hg : base ≤ g) (hW : base ≤ W.heap.size) {x : Value} {l : List α} (hx : Sl enc sz W x l) (hl : l.length ≤ 1000) :
    ∃ v' W', (Builtin.append_ #[t, t] ty #[.slice (some ⟨g, 0, none⟩) 0 0, x]).run Tryd.prog W = .ok v' W' ∧ Own enc e sz W' base v' l ∧ Ext W W' := by
  obtain ⟨i0, hi, hz0, hz1, hz2⟩ := info_parts hinfo
  subst hz1 hz2
  by_cases h0 : l.length = 0
  · have : l = [] := List.eq_nil_of_length_eq_zero h0
    subst this
    obtain ⟨A, c, rfl, _, _, _⟩ := hx
    refine ⟨_, _, run_append_nothing W t t ty e i0 ht hi _ 0 0 (Nat.le_refl _) _ ?_, Own.new hB hg, Ext.refl _⟩
    exact ⟨.inl ⟨e, ht⟩, fun _ => by simp [Builtin.lenOf], by cases A <;> simp [Builtin.firstCells, loadCells, loadCellsFrom], by cases A <;> simp [Builtin.firstCells, loadCells, loadCellsFrom], by simp, by simp⟩
  · obtain ⟨A, c, rfl, hlc, hcm, hcell⟩ := id hx
    obtain ⟨b, off, rfl, hb, _⟩ := hcell (by omega)
    have hge := grownCap_ge W (0 + l.length) 0 e
    have hge' := hge
    rw [Nat.zero_add] at hge'
    have hcm2 : grownCap W (0 + l.length) 0 e ≤ maxLen := grownCap_le_maxLen W (0 + l.length) 0 e (by unfold maxLen; omega)
    have hr := run_append_grow (P := Tryd.prog) W t ty e i0 z ht hi hz0 ⟨g, 0, none⟩ 0 0 [] (by simp) (by simp) ⟨b, off, none⟩ l.length c (l.flatMap enc) (enc_len henc l) (Sl.flat henc hsz hx) (by omega) (by omega)
      (growslice_fits (by omega) (by have : (0 + l.length) * i0.bytes ≤ 1000 * 1000 := Nat.mul_le_mul (by omega) hbytes; omega))
    refine ⟨_, _, hr, ⟨enc_len henc l, .inr ⟨W.heap.size, _, _, by rw [Nat.zero_add], hW, heap_alloc_new W.drew _, by omega, hcm2, ?_, ?_⟩⟩, (Ext.refl W).drew.alloc _⟩
    · simp only [Array.size_append, List.size_toArray, size_zeroCells, hzs, enc_len henc l, List.length_nil, Nat.zero_add]
      rw [← Nat.add_mul, Nat.add_sub_cancel' hge']
    · simp only [Array.toList_append, List.nil_append]
      rw [← enc_len henc l]
      exact List.take_left
end Go.Proofs.YtafdbgielmlihaaDoor
