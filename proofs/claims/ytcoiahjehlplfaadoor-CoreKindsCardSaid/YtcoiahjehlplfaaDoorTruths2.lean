/- core's truths, as a function that is ranged over. -/
import Derived.Test.YtcoiahjehlplfaaDoorTruths
import Derived.Test.YtcoiahjehlplfaaDoorCoreH
namespace Go.Proofs.YtcoiahjehlplfaaDoor
open Go.RowKit Go.Shelf Go.Lib
set_option maxRecDepth 100000
set_option linter.unusedSimpArgs false

/-- What is read of a press and of what was shown. -/
structure PM (bp bb off bs cs : Nat) (sp : List Span) (sh : List Int) (W : World) : Prop where
  p : W.cell? ⟨bp, 6, none⟩ = some (.slice (some ⟨bb, off, none⟩) sp.length cs)
  s : ∀ i x, sp[i]? = some x → W.cell? ⟨bb, off + i * 2, none⟩ = some (.int .i64 x.lo) ∧ W.cell? ⟨bb, off + i * 2 + 1, none⟩ = some (.int .i64 x.hi)
  h : ∀ i n, sh[i]? = some n → W.cell? ⟨bs, i, none⟩ = some (.int .i64 n)
theorem PM.ext {bp bb off bs cs : Nat} {sp : List Span} {sh : List Int} {A B : World} (h : PM bp bb off bs cs sp sh A) (e : Ext A B) : PM bp bb off bs cs sp sh B :=
  have k : ∀ {b i : Nat} {v : Value}, A.cell? ⟨b, i, none⟩ = some v → B.cell? ⟨b, i, none⟩ = some v := fun hc => (e.cells.1 _ _ (is_cells hc).1).trans hc
  ⟨k h.p, fun i x hx => ⟨k (h.s i x hx).1, k (h.s i x hx).2⟩, fun i n hn => k (h.h i n hn)⟩

set_option maxHeartbeats 1000000 in
theorem truths_seqs {bp bb off bs cs n₀ : Nat} {X : Nat → Prop} {sp : List Span} {sh : List Int} {w : World} (hsp : sp.length ≤ 5) (hsh : sh.length = 5) (hbd : ∀ x ∈ sp, 0 ≤ x.lo ∧ x.lo ≤ 1000 ∧ x.hi ≤ 1000)
    (hX : ∀ b, X b → b < w.heap.size) (x1 : ¬ X bp) (x2 : ¬ X bb) (x3 : ¬ X bs) (hn : n₀ ≤ w.heap.size) (hM : PM bp bb off bs cs sp sh w) :
    Seqs Tryd.prog 108 #[.pointer (some ⟨bp, 0, none⟩), .pointer (some ⟨bs, 0, none⟩)] n₀ X (fun x v W => SlI W v x) (truthsL (sp.zip sh)) w := by
  intro l J Jx W hE hJ hJx hY h0
  have hM1 := hM.ext hE
  have hsz := hE.size
  have hE4 : Ext W ((W.alloc (.cells #[.func (.yield l) #[] #[]] 119)).alloc (.cells #[.func (.func 109) #[] #[.pointer (some ⟨bp, 0, none⟩), .pointer (some ⟨W.heap.size, 0, none⟩), .pointer (some ⟨bs, 0, none⟩), .pointer (some ⟨W.heap.size + 1, 0, none⟩)]] 119)) :=
    (Ext.al _ _).alloc _
  generalize hW4 : ((W.alloc (.cells #[.func (.yield l) #[] #[]] 119)).alloc (.cells #[.func (.func 109) #[] #[.pointer (some ⟨bp, 0, none⟩), .pointer (some ⟨W.heap.size, 0, none⟩), .pointer (some ⟨bs, 0, none⟩), .pointer (some ⟨W.heap.size + 1, 0, none⟩)]] 119)) = W4 at hE4
  have hM4 := hM1.ext hE4
  have hTM : TM 109 l bp bb off bs W.heap.size (W.heap.size + 1) cs sp sh W4 := ⟨hM4.p, hM4.s, hM4.h, by rw [← hW4]; simp [go_sem], by rw [← hW4]; simp [go_sem]⟩
  have hs4 := hE4.size
  have he : exts [] ((sp.zip sh).drop 0) = truthsL (sp.zip sh) := by simp [exts]
  have H := lay_any (J := J) (Jx := Jx) (n₀ := n₀) (x₀ := w.heap.size) (X := X) (all := truthsL (sp.zip sh)) rfl hsp hsh hbd hX x1 x2 x3 (fun h => by have := hX _ h; omega) (fun h => by have := hX _ h; omega) hJ hY sp.length [] none 0 [] W4 (by simp) (Sl.nil W4) (fun b o e => by cases e) hTM (hJ _ _ _ h0 hE4) (by omega) (by omega) (by rw [show ([] : List Int).length = 0 from rfl, he]; exact List.prefix_refl _)
  rw [show ([] : List Int).length = 0 from rfl, he, List.nil_append] at H
  rw [← hW4] at H
  clear hW4 hTM hM4 hs4 hE4 hM1 hM hY
  go_enter Tryd.func108, Tryd.ntmps108
  go_wp2_with fail
  refine H.mono ?_
  rintro e w' (⟨rfl, g1, g2⟩ | ⟨rfl, q', g1, g2⟩)
  all_goals go_wp2
  · go_end0
    exact ⟨⟨_, rfl⟩, .inl g1⟩
  · go_end0
    exact ⟨⟨_, rfl⟩, .inr ⟨q', g1, g2⟩⟩

theorem truths_any (b : Bale) (dv wv sv lv : Value) (s0 s1 s2 s3 s4 : Int) (w : World) :
    Calls Tryd.prog 75 #[valP b dv wv sv lv, .agg #[.int .i64 s0, .int .i64 s1, .int .i64 s2, .int .i64 s3, .int .i64 s4]] w fun e w' =>
      e = .returned (.func (.func 108) #[] #[.pointer (some ⟨w.heap.size, 0, none⟩), .pointer (some ⟨w.heap.size + 1, 0, none⟩)]) ∧
      w' = (w.alloc (.cells #[.int .i64 b.id, .int .i64 b.layers, .int .i64 b.dry.lo, .int .i64 b.dry.hi, dv, wv, sv, lv] 82)).alloc (.cells #[.int .i64 s0, .int .i64 s1, .int .i64 s2, .int .i64 s3, .int .i64 s4] 105) := by
  dsimp only [valP]
  go_enter Tryd.func75, Tryd.ntmps75
  go_wp2
  go_ret
  exact ⟨rfl, rfl⟩
end Go.Proofs.YtcoiahjehlplfaaDoor
