/- The outright laws' alive: the chapter's examples hold. -/
import Derived.Test.YtkpengeaolcjhaaDoorPkTdCardF
import Derived.Test.YtkpengeaolcjhaaDoorPkTdCardH
import Derived.Test.YtkpengeaolcjhaaDoorPkTdCardB
import Derived.Test.YtkpengeaolcjhaaDoorPkTdCardC
namespace Go.Proofs.YtkpengeaolcjhaaDoor
open Go.RowKit Go.Shelf Go.Lib
set_option maxRecDepth 100000
set_option linter.unusedSimpArgs false

theorem exKind (w : World) (v : Value) (base : Nat) (hT : Tab w) (tv : TwinV (exB []) base v w) : Calls Tryd.prog 42 #[v, .int .i64 3] w fun e w' => e = .returned (.tuple #[.int .u8 1, .int .i64 0]) ∧ Ext w w' := by
  obtain ⟨dv, wv, rfl, o1, o2⟩ := tv
  refine (kindC_any (exB []) 3 dv wv w hT (o1.sl fun _ => rfl) (o2.sl fun _ => rfl)).mono fun e w' h => ⟨h.1.trans ?_, h.2⟩
  kernel_rfl
theorem exAside (w : World) (v : Value) (base : Nat) (hT : Tab w) (tv : TwinV (exB []) base v w) : Calls Tryd.prog 43 #[v, .int .i64 90] w fun e w' => e = .returned (.tuple #[.int .u8 1, .int .i64 0]) ∧ Ext w w' := by
  obtain ⟨dv, wv, rfl, o1, o2⟩ := tv
  refine (aside_any (exB []) 90 dv wv w hT (o1.sl fun _ => rfl) (o2.sl fun _ => rfl)).mono fun e w' h => ⟨h.1.trans ?_, h.2⟩
  kernel_rfl
end Go.Proofs.YtkpengeaolcjhaaDoor
/- middlinglaw03.CoreTruth: the walk. -/
namespace Go.Proofs.YtkpengeaolcjhaaDoor
open Go.RowKit Go.Shelf Go.Lib
set_option maxRecDepth 100000
set_option linter.unusedSimpArgs false

/-- A law's bale in its box. -/
structure SB (b : Bale) (w : World) (p : Nat) (dv wv : Value) (W : World) : Prop where
  e : Ext w W
  p : Blk W p 59 #[.int .i64 b.id, .int .i64 b.layers, .int .i64 b.dry.lo, .int .i64 b.dry.hi, dv, wv]
  t : Tab W
  d : SlD W dv b.draws
  w : SlW W wv b.weighs
theorem SB.ext {b : Bale} {w : World} {p : Nat} {dv wv : Value} {W W' : World} (h : SB b w p dv wv W) (e : Ext W W') : SB b w p dv wv W' := ⟨h.e.trans e, h.p.ext e, h.t.ext e, h.d.ext e, h.w.ext e⟩
theorem SB.cells {b : Bale} {w : World} {p : Nat} {dv wv : Value} {W : World} (h : SB b w p dv wv W) :
    W.cell? ⟨p, 0, none⟩ = some (.int .i64 b.id) ∧ W.cell? ⟨p, 1, none⟩ = some (.int .i64 b.layers) ∧ W.cell? ⟨p, 2, none⟩ = some (.int .i64 b.dry.lo) ∧ W.cell? ⟨p, 3, none⟩ = some (.int .i64 b.dry.hi) ∧ W.cell? ⟨p, 4, none⟩ = some dv ∧ W.cell? ⟨p, 5, none⟩ = some wv ∧ p < W.heap.size :=
  ⟨h.p.cell 0, h.p.cell 1, h.p.cell 2, h.p.cell 3, h.p.cell 4, h.p.cell 5, h.p.lt⟩

theorem three_of {E v : Int} (q1 : E = 0 ∨ E = 6) (q2 : E = 0 ↔ v ≠ 0) (q3 : v = 0 ∨ v = 1 ∨ v = 2) : (E = 0 ∧ v = 1) ∨ (E = 0 ∧ v = 2) ∨ (E = 6 ∧ v = 0) := by omega
end Go.Proofs.YtkpengeaolcjhaaDoor
/- A bale is laid into a box that the region itself made. -/
namespace Go.Proofs.YtkpengeaolcjhaaDoor
open Go.RowKit Go.Shelf Go.Lib
set_option maxRecDepth 100000
set_option linter.unusedSimpArgs false
set_option linter.unusedVariables false

theorem TwinV.mono {b : Bale} {base base' : Nat} {v : Value} {W : World} (h : TwinV b base v W) (hb : base' ≤ base) : TwinV b base' v W := by
  obtain ⟨dv, wv, h1, h2, h3⟩ := h
  exact ⟨dv, wv, h1, h2.mono hb, h3.mono hb⟩
theorem grown_set6 (V : World) (q : Nat) (y0 y1 y2 y3 y4 y5 : Value) : V.grownBy (set6 V q y0 y1 y2 y3 y4 y5) (some q) :=
  grown_set (grown_set (grown_set (grown_set (grown_set (grown_set (World.grownBy.refl _ _) (p := ⟨q, 0, none⟩) (.inl rfl) y0) (p := ⟨q, 1, none⟩) (.inl rfl) y1) (p := ⟨q, 2, none⟩) (.inl rfl) y2) (p := ⟨q, 3, none⟩) (.inl rfl) y3) (p := ⟨q, 4, none⟩) (.inl rfl) y4) (p := ⟨q, 5, none⟩) (.inl rfl) y5
theorem own_past {α : Type} {enc : α → List Value} {sz base g : Nat} {e t : TypeId} {cs : Array Value} {w w' : World} {v : Value} {l : List α} (h : Own enc e sz w base v l) (hB : Blk w g t cs) (hne : e ≠ t) (hG : w.grownBy w' (some g)) : Own enc e sz w' base v l := by
  refine ⟨h.1, ?_⟩
  rcases h.2 with h2 | ⟨g2, cap, cur, e1, hb, hg, h5⟩
  · exact .inl h2
  · refine .inr ⟨g2, cap, cur, e1, hb, (hG.block g2 (Array.getElem?_eq_some_iff.1 hg).1 ?_).trans hg, h5⟩
    intro e2
    injection e2 with e2
    subst e2
    unfold Blk at hB
    rw [hg] at hB
    injection hB with hB
    injection hB with _ e3 _
    exact hne e3

/-- Block i holds bale B. -/
def FilB (B : Bale) (s : Nat) (V : World) (i : Nat) : Prop := ∃ dv wv, Blk V i 59 #[.int .i64 B.id, .int .i64 B.layers, .int .i64 B.dry.lo, .int .i64 B.dry.hi, dv, wv] ∧ Own encD 81 4 V s dv B.draws ∧ Own encW 141 4 V s wv B.weighs
/-- Nothing turns but boxes of bales, and none that holds B. -/
def RX (B : Bale) (s : Nat) (V V' : World) : Prop := V.heap.size ≤ V'.heap.size ∧ (∀ i, i < V.heap.size → (∀ cs, ¬ Blk V i 59 cs) → V'.heap[i]? = V.heap[i]?) ∧ (∀ i cs, Blk V i 59 cs → ∃ cs', Blk V' i 59 cs' ∧ cs'.size = cs.size) ∧ (∀ i, FilB B s V i → FilB B s V' i)
theorem RX.ext {B : Bale} {s : Nat} {V V' : World} (h : Ext V V') : RX B s V V' :=
  ⟨h.size, fun i hi _ => h.block i hi, fun i cs hB => ⟨cs, hB.ext h, rfl⟩, fun i ⟨dv, wv, h1, h2, h3⟩ => ⟨dv, wv, h1.ext h, h2.ext h, h3.ext h⟩⟩
theorem RX.refl {B : Bale} {s : Nat} (V : World) : RX B s V V := RX.ext (Ext.refl V)
theorem own_rx {B : Bale} {s : Nat} {α : Type} {enc : α → List Value} {sz base : Nat} {e : TypeId} {V V' : World} {v : Value} {l : List α} (h : Own enc e sz V base v l) (hne : e ≠ 59) (hR : RX B s V V') : Own enc e sz V' base v l := by
  refine ⟨h.1, ?_⟩
  rcases h.2 with h2 | ⟨g2, cap, cur, e1, hb, hg, h5⟩
  · exact .inl h2
  · refine .inr ⟨g2, cap, cur, e1, hb, (hR.2.1 g2 (Array.getElem?_eq_some_iff.1 hg).1 ?_).trans hg, h5⟩
    intro cs hB
    unfold Blk at hB
    rw [hg] at hB
    injection hB with hB
    injection hB with _ e3 _
    exact hne e3
theorem TwinV.rx {B b : Bale} {s base : Nat} {V V' : World} {v : Value} (h : TwinV b base v V) (hR : RX B s V V') : TwinV b base v V' := by
  obtain ⟨dv, wv, h1, h2, h3⟩ := h
  exact ⟨dv, wv, h1, own_rx h2 (by decide) hR, own_rx h3 (by decide) hR⟩
/-- A box for a bale. -/
def BoxW (s : Nat) (v : Value) (V : World) : Prop := ∃ q, v = .pointer (some ⟨q, 0, none⟩) ∧ s ≤ q ∧ ∃ x0 x1 x2 x3 x4 x5, Blk V q 59 #[x0, x1, x2, x3, x4, x5]
theorem BoxW.rx {B : Bale} {s : Nat} {v : Value} {V V' : World} (h : BoxW s v V) (hR : RX B s V V') : BoxW s v V' := by
  obtain ⟨q, e, hq, x0, x1, x2, x3, x4, x5, hB⟩ := h
  obtain ⟨⟨cs⟩, hB', hs⟩ := hR.2.2.1 q _ hB
  match cs, hs with
  | [y0, y1, y2, y3, y4, y5], _ => exact ⟨q, e, hq, y0, y1, y2, y3, y4, y5, hB'⟩
/-- A box that holds B. -/
def FilV (B : Bale) (s : Nat) (v : Value) (V : World) : Prop := ∃ q, v = .pointer (some ⟨q, 0, none⟩) ∧ s ≤ q ∧ FilB B s V q
theorem FilV.rx {B : Bale} {s : Nat} {v : Value} {V V' : World} (h : FilV B s v V) (hR : RX B s V V') : FilV B s v V' := by
  obtain ⟨q, e, hq, hF⟩ := h
  exact ⟨q, e, hq, hR.2.2.2 q hF⟩
/-- A bale that was told, with no error. -/
def PutF (B : Bale) (s : Nat) (v : Value) (W : World) : Prop := ∃ u, v = .tuple #[u, .int .i64 0] ∧ TwinV B s u W
theorem PutF.rx {B b : Bale} {s base : Nat} {V V' : World} {v : Value} (h : PutF b base v V) (hR : RX B s V V') : PutF b base v V' := by
  obtain ⟨u, h1, h2⟩ := h
  exact ⟨u, h1, h2.rx hR⟩
/-- The store. -/
theorem box_store {B : Bale} {w3 V : World} {q : Nat} {dv wv x0 x1 x2 x3 x4 x5 : Value} (hB : Blk V q 59 #[x0, x1, x2, x3, x4, x5]) (hq : w3.heap.size ≤ q) (hE : Ext w3 V) (o1 : Own encD 81 4 V w3.heap.size dv B.draws) (o2 : Own encW 141 4 V w3.heap.size wv B.weighs) :
    CR (fun V => Ext w3 V) (fun V V' => RX B w3.heap.size V V') V (set6 V q (.int .i64 B.id) (.int .i64 B.layers) (.int .i64 B.dry.lo) (.int .i64 B.dry.hi) dv wv) ∧ FilV B w3.heap.size (.pointer (some ⟨q, 0, none⟩)) (set6 V q (.int .i64 B.id) (.int .i64 B.layers) (.int .i64 B.dry.lo) (.int .i64 B.dry.hi) dv wv) := by
  have hG := grown_set6 V q (.int .i64 B.id) (.int .i64 B.layers) (.int .i64 B.dry.lo) (.int .i64 B.dry.hi) dv wv
  have hN := hB.set6 (.int .i64 B.id) (.int .i64 B.layers) (.int .i64 B.dry.lo) (.int .i64 B.dry.hi) dv wv
  generalize set6 V q (.int .i64 B.id) (.int .i64 B.layers) (.int .i64 B.dry.lo) (.int .i64 B.dry.hi) dv wv = V' at hG hN
  have hF : FilB B w3.heap.size V' q := ⟨dv, wv, hN, own_past o1 hB (by decide) hG, own_past o2 hB (by decide) hG⟩
  refine ⟨⟨ext_grownP hE hG hq, hG.size, ?_, ?_, ?_⟩, q, rfl, hq, hF⟩
  · intro i hi hn
    refine hG.block i hi ?_
    intro e
    injection e with e
    subst e
    exact hn _ hB
  · intro i cs hi
    by_cases e : i = q
    · subst e
      refine ⟨_, hN, ?_⟩
      unfold Blk at hi hB
      rw [hB] at hi
      injection hi with hi
      injection hi with hi _ _
      rw [← hi]
      rfl
    · exact ⟨cs, (hG.block i hi.lt (by intro h; injection h with h; exact e h)).trans hi, rfl⟩
  · rintro i ⟨dv', wv', h1, h2, h3⟩
    by_cases e : i = q
    · subst e; exact hF
    · exact ⟨dv', wv', (hG.block i h1.lt (by intro h; injection h with h; exact e h)).trans h1, own_past h2 hB (by decide) hG, own_past h3 hB (by decide) hG⟩
end Go.Proofs.YtkpengeaolcjhaaDoor
