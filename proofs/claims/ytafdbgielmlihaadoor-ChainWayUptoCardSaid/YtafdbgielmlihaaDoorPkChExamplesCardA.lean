/- append of one element: rows of other types stay. -/
import Derived.Test.YtafdbgielmlihaaDoorPkChLeastCardE
namespace Go.Proofs.YtafdbgielmlihaaDoor
open Go.RowKit Go.Shelf Go.Lib
set_option maxRecDepth 100000
set_option linter.unusedSimpArgs false

/-- Rows of other types stay. -/
def OffX (e : TypeId) (W W' : World) : Prop := ∀ b e' cs, e' ≠ e → Blk W b e' cs → Blk W' b e' cs
theorem OffX.ext {e : TypeId} {W W' : World} (h : Ext W W') : OffX e W W' := fun _ _ _ _ k => k.ext h
theorem OffX.grown {α : Type} {enc : α → List Value} {e : TypeId} {sz base : Nat} {v : Value} {l : List α} {W W' : World} (h : Own enc e sz W base v l) (hg : W.grownBy W' v.ownBlock) : OffX e W W' := by
  intro b e' cs ne hB
  refine hB.grown hg ?_
  rcases h.2 with ⟨rfl, _⟩ | ⟨g, cap, cur, rfl, _, hh, _⟩
  · simp [Value.ownBlock]
  · intro he
    have : b = g := by simpa [Value.ownBlock] using he
    subst this
    unfold Blk at hB
    rw [hh] at hB
    injection hB with hB
    injection hB with _ e2 _
    exact ne e2.symm
theorem Own.offX {α : Type} {enc : α → List Value} {e e' : TypeId} {sz base : Nat} {v : Value} {l : List α} {W W' : World} (h : Own enc e' sz W base v l) (k : OffX e W W') (ne : e' ≠ e) : Own enc e' sz W' base v l := by
  refine ⟨h.1, ?_⟩
  rcases h.2 with h2 | ⟨g, cap, cur, e1, hb, hg, h5⟩
  · exact .inl h2
  · exact .inr ⟨g, cap, cur, e1, hb, k g e' cur ne hg, h5⟩
theorem ext_belowX {a w w' : World} {B : Nat} (h : Ext a w) (k : Below B w w') (hB : a.heap.size ≤ B) (hs : w.heap.size ≤ w'.heap.size) : Ext a w' :=
  ⟨k.os.trans h.os, k.tape.trans h.tape, k.output.trans h.output, Nat.le_trans h.size hs, fun i hi => (k.block i (by omega)).trans (h.block i hi)⟩

theorem run_appO {α : Type} {enc : α → List Value} {t ty e : TypeId} {sz : Nat} {z : Value} {bytes : Nat} (ht : Tryd.prog.underlying t = some (.slice e))
    (hinfo : (Tryd.prog.info? e).map (fun i => (i.zero, i.size, i.bytes)) = some (some z, sz, bytes)) (hzs : z.cells.size = sz) (hsz : 0 < sz) (hbytes : bytes ≤ 1000) (henc : ∀ x, (enc x).length = sz) (h1c : ∀ x, ∀ u ∈ enc x, u.oneCell' = true)
    {W : World} {base : Nat} {v x : Value} {l : List α} {y : α} (hv : NewF enc sz e base l v W) (hF : l.length < 1000) (hb : base ≤ W.heap.size) (hx : OneF enc e y x W) :
    ∃ v' W', (Builtin.append_ #[t, t] ty #[v, x]).run Tryd.prog W = .ok v' W' ∧ NewF enc sz e base (l ++ [y]) v' W' ∧ RF enc sz e base (l ++ [y]) y W W' ∧ Below base W W' ∧ OffX e W W' := by
  obtain ⟨b, rfl, hB⟩ := hx
  have hs : Sl enc sz W (.slice (some ⟨b, 0, none⟩) 1 1) [y] := Sl.single hB (Nat.le_refl _) (by decide)
  obtain ⟨v', W', hr, k1, k2, k3⟩ := run_appF (t := t) (ty := ty) (enc := enc) (sz := sz) (p := l) (m := [y]) (y := y) (F := l ++ [y]) ht hinfo hzs hsz hbytes henc h1c hv (List.prefix_refl _) (by rw [List.length_append]; simp; omega) hb hs
  refine ⟨v', W', hr, k1, k2, k3, ?_⟩
  obtain ⟨i0, hi, hz0, hz1, hz2⟩ := info_parts hinfo
  have hby : (l.length + 1) * bytes ≤ 1000 * 1000 := Nat.mul_le_mul (by omega) hbytes
  obtain ⟨v2, W2, hr2, -, h2, -⟩ := run_append_own (P := Tryd.prog) W base t ty e i0 z sz bytes ht hi hz0 hz1 hz2 hzs hsz v l.length (l.flatMap enc) hv.1 ⟨b, 0, none⟩ 1 1 ([y].flatMap enc) (by simp [henc]) (Sl.flat henc hsz hs) (fun u hu => by
    obtain ⟨q, _, hq⟩ := List.mem_flatMap.1 hu
    exact h1c q u hq) (by unfold maxLen; omega) (by omega) hb
  rw [hr] at hr2
  injection hr2 with _ e2
  subst e2
  exact OffX.grown hv.1 h2
end Go.Proofs.YtafdbgielmlihaaDoor
