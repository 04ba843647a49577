/- append of a part of a list at its place: every slice of a beginning of the list keeps it (AppF, for any seat). -/
import Derived.Test.YtafdbgielmlihaaDoorOwnMem
namespace Go.Proofs.YtafdbgielmlihaaDoor
open Go.RowKit Go.Shelf Go.Lib
set_option maxRecDepth 100000
set_option linter.unusedSimpArgs false

theorem Sl.head {α : Type} {enc : α → List Value} {sz : Nat} {W : World} {A : Option Addr} {n c k : Nat} {l : List α} (h : Sl enc sz W (.slice A n c) l) (hk : k ≤ n) : Sl enc sz W (.slice A k c) (l.take k) := by
  obtain ⟨A', c', hv, hlc, hcm, hx⟩ := h
  injection hv with e1 e2 e3
  subst e1 e2 e3
  refine ⟨A, c, by rw [List.length_take, Nat.min_eq_left hk], by simp; omega, hcm, fun h0 => ?_⟩
  obtain ⟨b, off, hA, hb, hc⟩ := hx (by simp at h0; omega)
  refine ⟨b, off, hA, hb, fun i x hi => hc i x ?_⟩
  rw [List.getElem?_take] at hi
  split at hi
  · exact hi
  · cases hi
theorem Sl.tail {α : Type} {enc : α → List Value} {sz : Nat} {W : World} {A : Option Addr} {n c k : Nat} {l : List α} (h : Sl enc sz W (.slice A n c) l) (hk : k ≤ n) : Sl enc sz W (sliced A k n c sz) (l.drop k) := by
  obtain ⟨A', c', hv, hlc, hcm, hx⟩ := h
  injection hv with e1 e2 e3
  subst e1 e2 e3
  refine ⟨(if c = k then A else A.map (·.add (k * sz))), c - k, by unfold sliced; rw [List.length_drop], by simp; omega, by omega, fun h0 => ?_⟩
  have h0' : k < l.length := by simp at h0; omega
  obtain ⟨b, off, rfl, hb, hc⟩ := hx (by omega)
  refine ⟨b, off + k * sz, by rw [if_neg (by omega)]; simp [Addr.add], hb, fun i x hi j w hw => ?_⟩
  rw [List.getElem?_drop] at hi
  have := hc (k + i) x hi j w hw
  rw [Nat.add_mul, ← Nat.add_assoc] at this
  exact this
theorem Sl.single {α : Type} {enc : α → List Value} {sz : Nat} {W : World} {b c : Nat} {e : TypeId} {x : α} (h : Blk W b e (enc x).toArray) (h1 : 1 ≤ c) (hc : c ≤ maxLen) : Sl enc sz W (.slice (some ⟨b, 0, none⟩) 1 c) [x] := by
  refine ⟨_, c, rfl, h1, hc, fun _ => ⟨b, 0, rfl, h.lt, fun k y hk j w hw => ?_⟩⟩
  cases k with
  | zero =>
    simp at hk
    subst hk
    have := h.cell j
    rw [show 0 + 0 * sz + j = j by omega, this]
    simpa using hw
  | succ k => simp at hk
def OneF {α : Type} (enc : α → List Value) (e : TypeId) (x : α) (v : Value) (W : World) : Prop := ∃ g, v = .slice (some ⟨g, 0, none⟩) 1 1 ∧ Blk W g e (enc x).toArray
theorem own_off {α : Type} {enc : α → List Value} {sz base g : Nat} {e t : TypeId} {cs : Array Value} {w w' : World} {v : Value} {l : List α} (h : Own enc e sz w base v l) (hB : Blk w g t cs) (hne : e ≠ t) (hG : w.grownBy w' (some g)) : Own enc e sz w' base v l := by
  refine ⟨h.1, ?_⟩
  rcases h.2 with h2 | ⟨g2, cap, cur, e1, hb, hg, h5⟩
  · exact .inl h2
  · refine .inr ⟨g2, cap, cur, e1, hb, (hG.block g2 ?_ ?_).trans hg, h5⟩
    · obtain ⟨h6, _⟩ := Array.getElem?_eq_some_iff.1 hg
      exact h6
    · intro e'
      injection e' with e'
      subst e'
      unfold Blk at hB
      rw [hg] at hB
      injection hB with hB
      injection hB with _ e2 _
      exact hne e2
--DD
theorem take_over {β : Type} (cur X Z : List β) (h : X <+: Z ∨ Z <+: X) (hz : cur.take Z.length = Z) : (X ++ cur.drop X.length).take Z.length = Z := by
  rcases h with ⟨r, rfl⟩ | ⟨r, rfl⟩
  · have h2 : (cur.drop X.length).take r.length = r := by
      have : (cur.take (X ++ r).length).drop X.length = r := by rw [hz]; simp
      rw [List.drop_take] at this
      simpa using this
    rw [List.length_append, List.take_append, List.take_of_length_le (by omega), Nat.add_sub_cancel_left, h2]
  · simp
theorem flat_prefix {α β : Type} (enc : α → List β) {a b : List α} (h : a <+: b) : a.flatMap enc <+: b.flatMap enc := by
  obtain ⟨r, rfl⟩ := h
  rw [List.flatMap_append]
  exact List.prefix_append _ _

/-- A slice in new memory, without room if it is empty. -/
def NewF {α : Type} (enc : α → List Value) (sz : Nat) (e : TypeId) (base : Nat) (p : List α) (v : Value) (W : World) : Prop := Own enc e sz W base v p ∧ ∃ A c, v = .slice A p.length c ∧ (p.length = 0 → c = 0)
def RF {α : Type} (enc : α → List Value) (sz : Nat) (e : TypeId) (base : Nat) (F : List α) (y : α) (W W' : World) : Prop :=
  W.heap.size ≤ W'.heap.size ∧ (∀ z, z <+: F → ∀ v, Own enc e sz W base v z → Own enc e sz W' base v z) ∧ (∀ b, Blk W b e (enc y).toArray → Blk W' b e (enc y).toArray) ∧ ∀ b, Blk W b e #[] → Blk W' b e #[]
theorem RF.refl {α : Type} {enc : α → List Value} {sz : Nat} {e : TypeId} {base : Nat} {F : List α} {y : α} (W : World) : RF enc sz e base F y W W := ⟨Nat.le_refl _, fun _ _ _ h => h, fun _ h => h, fun _ h => h⟩
theorem RF.ext {α : Type} {enc : α → List Value} {sz : Nat} {e : TypeId} {base : Nat} {F : List α} {y : α} {W W' : World} (h : Ext W W') : RF enc sz e base F y W W' := ⟨h.size, fun _ _ _ k => k.ext h, fun _ k => k.ext h, fun _ k => k.ext h⟩

theorem run_appF {α : Type} {enc : α → List Value} {t ty e : TypeId} {sz : Nat} {z : Value} {bytes : Nat} (ht : Tryd.prog.underlying t = some (.slice e))
    (hinfo : (Tryd.prog.info? e).map (fun i => (i.zero, i.size, i.bytes)) = some (some z, sz, bytes)) (hzs : z.cells.size = sz) (hsz : 0 < sz) (hbytes : bytes ≤ 1000) (henc : ∀ x, (enc x).length = sz) (h1c : ∀ x, ∀ u ∈ enc x, u.oneCell' = true)
    {W : World} {base : Nat} {v x : Value} {F p m : List α} {y : α} (hv : NewF enc sz e base p v W) (hpm : p ++ m <+: F) (hF : F.length ≤ 1000) (hb : base ≤ W.heap.size) (hx : Sl enc sz W x m) :
    ∃ v' W', (Builtin.append_ #[t, t] ty #[v, x]).run Tryd.prog W = .ok v' W' ∧ NewF enc sz e base (p ++ m) v' W' ∧ RF enc sz e base F y W W' ∧ Below base W W' := by
  obtain ⟨i0, hi, hz0, hz1, hz2⟩ := info_parts hinfo
  obtain ⟨hown, A, c0, hv0, hc0⟩ := id hv
  have hpl := hpm.length_le
  rw [List.length_append] at hpl
  by_cases h0 : m.length = 0
  · have : m = [] := List.eq_nil_of_length_eq_zero h0
    subst this
    obtain ⟨A2, c2, rfl, _, _, _⟩ := hx
    obtain ⟨A3, n3, c3, e3, _, hlc, _⟩ := (Own.sl henc hown : Sl enc sz W v p).form
    have hrun := run_append_nothing (P := Tryd.prog) W t t ty e i0 ht hi A p.length c0 (by rw [hv0] at e3; injection e3 with _ e4 e5; omega) (.slice A2 0 c2)
      ⟨.inl ⟨e, ht⟩, fun _ => by simp [Builtin.lenOf], by cases A2 <;> simp [Builtin.firstCells, loadCells, loadCellsFrom], by cases A2 <;> simp [Builtin.firstCells, loadCells, loadCellsFrom], by simp, by simp⟩
    rw [← hv0] at hrun
    refine ⟨_, _, hrun, ?_, RF.refl _, Below.refl _ _⟩
    rw [List.append_nil]
    exact hv
  · obtain ⟨A2, c, rfl, hlc2, hcm2, hcell⟩ := id hx
    obtain ⟨b, off, rfl, hbb, _⟩ := hcell (by omega)
    clear hcell
    have hnews := Sl.flat henc hsz hx
    have hml := enc_len henc m
    have h1' : ∀ u ∈ m.flatMap enc, u.oneCell' = true := fun u hu => by
      obtain ⟨q, _, hq⟩ := List.mem_flatMap.1 hu
      exact h1c q u hq
    have hby : (p.length + m.length) * bytes ≤ 1000 * 1000 := Nat.mul_le_mul (by omega) hbytes
    obtain ⟨v', W', hr, h1, h2, _⟩ := run_append_own (P := Tryd.prog) W base t ty e i0 z sz bytes ht hi hz0 hz1 hz2 hzs hsz v p.length (p.flatMap enc) hown ⟨b, off, none⟩ m.length c (m.flatMap enc) hml hnews h1' (by unfold maxLen; omega) (by omega) hb
    have h1o : Own enc e sz W' base v' (p ++ m) := by unfold Own; rw [List.length_append, List.flatMap_append]; exact h1
    have hn' : NewF enc sz e base (p ++ m) v' W' := by
      obtain ⟨A4, n4, c4, e4, hn4, _, _⟩ := (Own.sl henc h1o : Sl enc sz W' v' (p ++ m)).form
      exact ⟨h1o, A4, c4, by rw [e4, hn4], fun h => by rw [List.length_append] at h; omega⟩
    refine ⟨v', W', hr, hn', ?_, (Below.refl base W).grown h2 hb (fun k hk => (World.ownsRow.lt hown k hk).1)⟩
    rcases id hown.2 with ⟨rfl, hp0⟩ | ⟨g, cap, cur, rfl, hg, hgg, hlc, hcm, hcs, htake⟩
    · have hE : Ext W W' := ⟨h2.os, h2.tape, h2.output, h2.size, fun i hi => h2.block i hi (by simp [Value.ownBlock])⟩
      exact RF.ext hE
    · have hpf := enc_len henc p
      by_cases hroom : p.length + m.length ≤ cap
      · have hl0 : p.length ≠ 0 := fun h => by
          injection hv0 with _ _ e3
          have := hc0 h
          omega
        have hmul : (p.length + m.length) * sz ≤ cap * sz := Nat.mul_le_mul_right _ hroom
        rw [Nat.add_mul] at hmul
        have hr2 := run_append_room (P := Tryd.prog) W t ty e i0 ht hi g p.length cap cur hgg ⟨b, off, none⟩ m.length c (m.flatMap enc) (by rw [hz1]; exact hml) hnews h1' (by exact hroom) (by rw [hz1, hcs, hml]; exact hmul)
        rw [hr] at hr2
        injection hr2 with hv' hW'
        rw [hz1, htake] at hW'
        have hX : ((p ++ m).flatMap enc).length = p.length * sz + (m.flatMap enc).length := by rw [List.flatMap_append, List.length_append, hpf]
        rw [← hX, ← List.flatMap_append] at hW'
        have hgW : W'.heap[g]? = some (.cells ((p ++ m).flatMap enc ++ cur.toList.drop ((p ++ m).flatMap enc).length).toArray e (0, 0)) := by
          rw [hW']; exact setRow_heap W g cur _ e _ hgg
        have hsz' : ((p ++ m).flatMap enc ++ cur.toList.drop ((p ++ m).flatMap enc).length).toArray.size = cap * sz := by
          simp only [List.size_toArray, List.length_append, List.length_drop, Array.length_toList, hcs]
          rw [hX, hml]; omega
        have hoth : ∀ k, k ≠ g → W'.heap[k]? = W.heap[k]? := fun k hk => by rw [hW']; exact setRow_other W g k _ hk
        have hne : ∀ b2 cs, Blk W b2 e cs → cs.size ≤ sz → b2 ≠ g := by
          intro b2 cs hB hs he
          subst he
          unfold Blk at hB
          rw [hgg] at hB
          injection hB with hB
          injection hB with e1 _ _
          rw [← e1, hcs] at hs
          have : cap ≤ 1 := Nat.le_of_mul_le_mul_right (by omega) hsz
          omega
        refine ⟨h2.size, fun z' hz v2 ho => ?_, fun b2 hB => (hoth b2 (hne b2 _ hB (by simp [henc]))).trans hB, fun b2 hB => (hoth b2 (hne b2 _ hB (by simp))).trans hB⟩
        rcases id ho.2 with ⟨rfl, hn⟩ | ⟨g2, cap2, cur2, rfl, hg2, hgg2, hlc2, hcm2, hcs2, ht2⟩
        · exact ⟨ho.1, .inl ⟨rfl, hn⟩⟩
        · refine ⟨ho.1, .inr ?_⟩
          by_cases he : g2 = g
          · subst he
            rw [hgg] at hgg2
            injection hgg2 with hgg2
            injection hgg2 with e1 _ _
            subst e1
            refine ⟨g2, cap2, _, rfl, hg2, hgW, hlc2, hcm2, by rw [hsz']; omega, ?_⟩
            have := take_over cur.toList ((p ++ m).flatMap enc) (z'.flatMap enc) ((List.prefix_or_prefix_of_prefix hpm hz).imp (flat_prefix enc) (flat_prefix enc)) (by rw [enc_len henc]; exact ht2)
            rw [enc_len henc z'] at this
            exact this
          · exact ⟨g2, cap2, cur2, rfl, hg2, (hoth g2 he).trans hgg2, hlc2, hcm2, by omega, ht2⟩
      · have holds : ∀ j u, (p.flatMap enc)[j]? = some u → W.cell? ((⟨g, 0, none⟩ : Addr).add j) = some u := World.ownsRow.cells hown (g := g) rfl
        have hr2 := run_append_grow (P := Tryd.prog) W t ty e i0 z ht hi hz0 ⟨g, 0, none⟩ p.length cap (p.flatMap enc) (by rw [hz1]; exact hpf) holds ⟨b, off, none⟩ m.length c (m.flatMap enc) (by rw [hz1]; exact hml) hnews (by omega) (by omega) (growslice_fits (by omega) (by rw [hz2]; omega))
        rw [hr] at hr2
        injection hr2 with hv' hW'
        subst hW'
        exact RF.ext ((Ext.refl W).drew.alloc _)
end Go.Proofs.YtafdbgielmlihaaDoor
