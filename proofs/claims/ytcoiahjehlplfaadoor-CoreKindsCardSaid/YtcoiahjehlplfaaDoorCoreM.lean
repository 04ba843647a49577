/- The plain data of the core layer, and what its functions say of them: no program in sight. -/
import Derived.Test.YtcoiahjehlplfaaDoorCoreA
namespace Go.Proofs.YtcoiahjehlplfaaDoor
open Go.RowKit Go.Shelf

structure Span where
  lo : Int
  hi : Int
structure Draw where
  number : Int
  layer : Int
  grade : Span
structure Weigh where
  number : Int
  pounds : Int
  damp : Span
structure Bale where
  id : Int
  layers : Int
  dry : Span
  draws : List Draw
  weighs : List Weigh

abbrev encS (s : Span) : List Value := [.int .i64 s.lo, .int .i64 s.hi]
abbrev encD (x : Draw) : List Value := [.int .i64 x.number, .int .i64 x.layer, .int .i64 x.grade.lo, .int .i64 x.grade.hi]
abbrev encW (x : Weigh) : List Value := [.int .i64 x.number, .int .i64 x.pounds, .int .i64 x.damp.lo, .int .i64 x.damp.hi]
abbrev valS (s : Span) : Value := .agg #[.int .i64 s.lo, .int .i64 s.hi]
abbrev valD (x : Draw) : Value := .agg #[.int .i64 x.number, .int .i64 x.layer, .int .i64 x.grade.lo, .int .i64 x.grade.hi]
abbrev valW (x : Weigh) : Value := .agg #[.int .i64 x.number, .int .i64 x.pounds, .int .i64 x.damp.lo, .int .i64 x.damp.hi]
abbrev valB (b : Bale) (dv wv : Value) : Value := .agg #[.int .i64 b.id, .int .i64 b.layers, .int .i64 b.dry.lo, .int .i64 b.dry.hi, dv, wv]
abbrev SlS (w : World) (v : Value) (l : List Span) : Prop := Sl encS 2 w v l
abbrev SlD (w : World) (v : Value) (l : List Draw) : Prop := Sl encD 4 w v l
abbrev SlW (w : World) (v : Value) (l : List Weigh) : Prop := Sl encW 4 w v l

theorem SlS.cells {w W : World} {b off k : Nat} {x : Span} (h : ∀ W, Ext w W → ∀ j u, (encS x)[j]? = some u → W.cell? ⟨b, off + k * 2 + j, none⟩ = some u) (hW : Ext w W) :
    W.cell? ⟨b, off + k * 2, none⟩ = some (.int .i64 x.lo) ∧ W.cell? ⟨b, off + k * 2 + 1, none⟩ = some (.int .i64 x.hi) :=
  ⟨by simpa using h W hW 0 _ rfl, h W hW 1 _ rfl⟩
theorem SlD.cells {w W : World} {b off k : Nat} {x : Draw} (h : ∀ W, Ext w W → ∀ j u, (encD x)[j]? = some u → W.cell? ⟨b, off + k * 4 + j, none⟩ = some u) (hW : Ext w W) :
    W.cell? ⟨b, off + k * 4, none⟩ = some (.int .i64 x.number) ∧ W.cell? ⟨b, off + k * 4 + 1, none⟩ = some (.int .i64 x.layer) ∧ W.cell? ⟨b, off + k * 4 + 2, none⟩ = some (.int .i64 x.grade.lo) ∧ W.cell? ⟨b, off + k * 4 + 3, none⟩ = some (.int .i64 x.grade.hi) :=
  ⟨by simpa using h W hW 0 _ rfl, h W hW 1 _ rfl, h W hW 2 _ rfl, h W hW 3 _ rfl⟩
theorem SlW.cells {w W : World} {b off k : Nat} {x : Weigh} (h : ∀ W, Ext w W → ∀ j u, (encW x)[j]? = some u → W.cell? ⟨b, off + k * 4 + j, none⟩ = some u) (hW : Ext w W) :
    W.cell? ⟨b, off + k * 4, none⟩ = some (.int .i64 x.number) ∧ W.cell? ⟨b, off + k * 4 + 1, none⟩ = some (.int .i64 x.pounds) ∧ W.cell? ⟨b, off + k * 4 + 2, none⟩ = some (.int .i64 x.damp.lo) ∧ W.cell? ⟨b, off + k * 4 + 3, none⟩ = some (.int .i64 x.damp.hi) :=
  ⟨by simpa using h W hW 0 _ rfl, h W hW 1 _ rfl, h W hW 2 _ rfl, h W hW 3 _ rfl⟩
end Go.Proofs.YtcoiahjehlplfaaDoor
