/- The program's Way, part one: the list of ways in memory, and the region that puts a way behind it. -/
import Derived.Test.YtafdbgielmlihaaDoorPkChAddsCardA
import Derived.Test.YtafdbgielmlihaaDoorPkChAddsCardB
import Derived.Test.YtafdbgielmlihaaDoorPkChHandsCardF
import Derived.Test.YtafdbgielmlihaaDoorPkChAddsCardD
import Derived.Test.YtafdbgielmlihaaDoorPkChAddsCardC
namespace Go.Proofs.YtafdbgielmlihaaDoor
open Go.RowKit Go.Shelf Go.Lib
set_option maxRecDepth 100000
set_option linter.unusedSimpArgs false

abbrev WyV := Int × Option Addr × Nat × Nat
def slV (u : Option Addr × Nat × Nat) : Value := .slice u.1 u.2.1 u.2.2
def encWy (e : WyV) : List Value := [.int .i64 e.1, slV e.2]
theorem encWy_1 : ∀ x, ∀ u ∈ encWy x, u.oneCell' = true := by
  intro x u hu
  simp only [encWy, List.mem_cons, List.not_mem_nil, or_false] at hu
  rcases hu with rfl | rfl <;> rfl
theorem info145x : (Tryd.prog.info? 145).map (fun i => (i.zero, i.size, i.bytes)) = some (some (.agg #[.int .i64 0, .slice none 0 0]), 2, 32) := by kernel_rfl
theorem own_diff {α β : Type} {enc : α → List Value} {enc' : β → List Value} {sz sz' base base' : Nat} {e e' : TypeId} {W W' : World} {v v' : Value} {l : List α} {l' : List β} (h : Own enc e sz W base v l) (h' : Own enc' e' sz' W base' v' l') (hne : e ≠ e') (k : W.grownBy W' v'.ownBlock) : Own enc e sz W' base v l := by
  refine own_same h fun g hg => ?_
  have hr := own_rng h hg
  refine k.block g hr.2 fun he => ?_
  rcases h.2 with ⟨rfl, -⟩ | ⟨g1, c1, cur1, rfl, -, hg1, -⟩
  · simp [Value.ownBlock] at hg
  · rcases h'.2 with ⟨rfl, -⟩ | ⟨g2, c2, cur2, rfl, -, hg2, -⟩
    · simp [Value.ownBlock] at he
    · have e1 : g1 = g := by simpa [Value.ownBlock] using hg
      have e2 : g = g2 := by simpa [Value.ownBlock] using he
      rw [e1] at hg1; rw [← e2, hg1] at hg2
      injection hg2 with hg2
      injection hg2 with _ hg2
      exact hne hg2
/-- A list of ways in memory. -/
def WLs (W : World) (B : Nat) (v : Value) (L : List Wy) : Prop :=
  ∃ Vs : List WyV, Own encWy 145 2 W B v Vs ∧ Vs.length = L.length ∧ ∀ (i : Nat) (u : WyV) (e : Wy), Vs[i]? = some u → L[i]? = some e → u.1 = e.1 ∧ Own encI 3 1 W 0 (slV u.2) e.2
theorem WLs.nil (W : World) (B : Nat) : WLs W B (.slice none 0 0) [] := ⟨[], Own.nil _ _, rfl, fun i u e h => by simp at h⟩
theorem WLs.ext {W W' : World} {B : Nat} {v : Value} {L : List Wy} (h : WLs W B v L) (k : Ext W W') : WLs W' B v L := by
  obtain ⟨Vs, h1, h2, h3⟩ := h
  exact ⟨Vs, h1.ext k, h2, fun i u e hu he => ⟨(h3 i u e hu he).1, (h3 i u e hu he).2.ext k⟩⟩
theorem WLs.offC {W W' : World} {B q : Nat} {v : Value} {L : List Wy} (h : WLs W B v L) (k : W.grownBy W' (some q)) (hq : NoC W q) : WLs W' B v L := by
  obtain ⟨Vs, h1, h2, h3⟩ := h
  exact ⟨Vs, own_offC h1 k hq, h2, fun i u e hu he => ⟨(h3 i u e hu he).1, own_offC (h3 i u e hu he).2 k hq⟩⟩
theorem WLs.mono {W : World} {B B' : Nat} {v : Value} {L : List Wy} (h : WLs W B v L) (hb : B' ≤ B) : WLs W B' v L := by
  obtain ⟨Vs, h1, h2, h3⟩ := h
  exact ⟨Vs, h1.mono hb, h2, h3⟩
theorem WLs.off {W W' : World} {B q : Nat} {v : Value} {L : List Wy} (h : WLs W B v L) (k : OffB (· = q) W W') (hq : NoC W q) : WLs W' B v L := by
  obtain ⟨Vs, h1, h2, h3⟩ := h
  have key : ∀ {α : Type} {enc : α → List Value} {e : TypeId} {sz base : Nat} {v : Value} {l : List α}, Own enc e sz W base v l → Own enc e sz W' base v l := by
    intro α enc e sz base v l h
    refine own_same h fun g hg => k.block g (own_rng h hg).2 fun e => ?_
    exact own_neC h hq (by rw [hg, e])
  exact ⟨Vs, key h1, h2, fun i u e hu he => ⟨(h3 i u e hu he).1, key (h3 i u e hu he).2⟩⟩
theorem MapB.noC {W : World} {m n : Nat} {g : Int → Bool} (h : MapB W m n g) : NoC W m := h.noCells
/-- A way of the list. -/
theorem WLs.at_ {W : World} {B : Nat} {A : Option Addr} {n cp : Nat} {L : List Wy} (h : WLs W B (.slice A n cp) L) {i : Nat} {e : Wy} (he : L[i]? = some e) :
    ∃ b off Av nv cv, A = some ⟨b, off, none⟩ ∧ (i : Int) < (n : Int) ∧ Own encI 3 1 W 0 (.slice Av nv cv) e.2 ∧ W.cell? ⟨b, off + i * 2, none⟩ = some (.int .i64 e.1) ∧ W.cell? ⟨b, off + i * 2 + 1, none⟩ = some (.slice Av nv cv) := by
  obtain ⟨Vs, h1, h2, h3⟩ := h
  have hl := (List.getElem?_eq_some_iff.1 he).1
  have hs := Own.sl (enc := encWy) (fun _ => rfl) h1
  obtain ⟨A', n', cp', e1, e2, -, -⟩ := hs.form
  injection e1 with e3 e4 e5
  subst e3 e4 e5
  have hn : n = L.length := by rw [← h2]; exact e2.out
  obtain ⟨b, off, u, rfl, hu, -, hc⟩ := hs.at_ (k := i) (by omega)
  obtain ⟨h4, h5⟩ := h3 i u e hu he
  refine ⟨b, off, u.2.1, u.2.2.1, u.2.2.2, rfl, by omega, h5, ?_, hc W (Ext.refl _) 1 _ rfl⟩
  have := hc W (Ext.refl _) 0 _ rfl
  rw [h4] at this
  simpa using this
theorem WLs.form {W : World} {B : Nat} {v : Value} {L : List Wy} (h : WLs W B v L) : ∃ A n c, v = .slice A n c ∧ Hid (n = L.length) := by
  obtain ⟨Vs, h1, h2, -⟩ := h
  obtain ⟨A, n, c, rfl, hn, -, -⟩ := (Own.sl (enc := encWy) (fun _ => rfl) h1).form
  exact ⟨A, n, c, rfl, Lib.hid (by have := hn.out; omega)⟩
theorem own_shape {W : World} {B : Nat} {v : Value} {l : List Int} {x : Int} (h : Own encI 3 1 W B v (l ++ [x])) : ∃ g k c, v = .slice (some ⟨g, 0, none⟩) k c := by
  obtain ⟨g, c, rfl, -⟩ := own_succ (k := l.length) (by unfold Own at h; rwa [List.length_append, List.length_singleton] at h)
  exact ⟨g, _, c, rfl⟩
/-- What is known while the region that draws its order is gone through. -/
structure LvI (B : Nat) (nums : List Int) (x y : Int) (L : Nat → Bool) (e : Nat → Value) (W : World) : Prop where
  o1 : L 9 = false → L 10 = false
  o2 : L 10 = false → L 11 = false
  a : L 9 = false → L 5 = true → Own encI 3 1 W B (e 81) nums
  b : L 9 = false → L 8 = true → ∃ g, e 84 = .slice (some ⟨g, 0, none⟩) 1 1 ∧ g < W.heap.size ∧ W.cell? ⟨g, 0, none⟩ = some (.int .i64 x)
  c : L 9 = true → ∃ g k d, e 85 = .slice (some ⟨g, 0, none⟩) k d ∧ Own encI 3 1 W B (.slice (some ⟨g, 0, none⟩) k d) (nums ++ [x])
  d : L 10 = true → e 86 = .agg #[.int .i64 y, e 85]
  f : L 11 = true → ∃ g, e 87 = .slice (some ⟨g, 0, none⟩) 1 1 ∧ Blk W g 145 #[.int .i64 y, e 85]
theorem LvI.start {B : Nat} {nums : List Int} {x y : Int} {e : Nat → Value} {W : World} : LvI B nums x y (fun _ => false) e W :=
  ⟨fun _ => rfl, fun _ => rfl, fun _ h => (by cases h), fun _ h => (by cases h), fun h => (by cases h), fun h => (by cases h), fun h => (by cases h)⟩
theorem LvI.keep {B : Nat} {nums : List Int} {x y : Int} {L : Nat → Bool} {e : Nat → Value} {W : World} (h : LvI B nums x y L e W) {i d : Nat} (hi : (5 ≠ i ∧ 8 ≠ i ∧ 9 ≠ i ∧ 10 ≠ i ∧ 11 ≠ i) ∧ 81 ≠ d ∧ 84 ≠ d ∧ 85 ≠ d ∧ 86 ≠ d ∧ 87 ≠ d) (v : Value) : LvI B nums x y (updD L i true) (updD e d v) W := by
  obtain ⟨⟨i5, i8, i9, i10, i11⟩, d1, d4, d5, d6, d7⟩ := hi
  obtain ⟨o1, o2, a, b, c, d, f⟩ := h
  rw [← updD_ne (f := L) (v := true) i9] at o1 a b c
  rw [← updD_ne (f := L) (v := true) i10] at o1 o2 d
  rw [← updD_ne (f := L) (v := true) i11] at o2 f
  rw [← updD_ne (f := L) (v := true) i5] at a
  rw [← updD_ne (f := L) (v := true) i8] at b
  rw [← updD_ne (f := e) (v := v) d1] at a
  rw [← updD_ne (f := e) (v := v) d4] at b
  rw [← updD_ne (f := e) (v := v) d5] at c d f
  rw [← updD_ne (f := e) (v := v) d6] at d
  rw [← updD_ne (f := e) (v := v) d7] at f
  exact ⟨o1, o2, a, b, c, d, f⟩
section
variable {B : Nat} {nums : List Int} {x y : Int} {L : Nat → Bool} {e : Nat → Value} {W W' : World}
theorem LvI.p5 (h : LvI B nums x y L e W) (hE : Ext W W') {v : Value} (hv : Own encI 3 1 W' B v nums) : LvI B nums x y (updD L 5 true) (updD e 81 v) W' where
  o1 := h.o1
  o2 := h.o2
  a := fun _ _ => hv
  b := fun h1 h2 => by
    obtain ⟨g, h3, h4, h5⟩ := h.b h1 h2
    exact ⟨g, h3, Nat.lt_of_lt_of_le h4 hE.size, (hE.cell (p := ⟨g, 0, none⟩) h4).trans h5⟩
  c := fun h1 => by
    obtain ⟨g, k, d, h2, h3⟩ := h.c h1
    exact ⟨g, k, d, h2, h3.ext hE⟩
  d := h.d
  f := fun h1 => by
    obtain ⟨g, h2, h3⟩ := h.f h1
    exact ⟨g, h2, h3.ext hE⟩
theorem LvI.p8 (h : LvI B nums x y L e W) : LvI B nums x y (updD L 8 true) (updD e 84 (.slice (some ⟨W.heap.size, 0, none⟩) 1 1)) (W.alloc (.cells #[.int .i64 x] 3)) where
  o1 := h.o1
  o2 := h.o2
  a := fun h1 h2 => (h.a h1 h2).alloc _
  b := fun h1 h2 => ⟨W.heap.size, rfl, by simp, by simp⟩
  c := fun h1 => by
    obtain ⟨g, k, d, h2, h3⟩ := h.c h1
    exact ⟨g, k, d, h2, h3.alloc _⟩
  d := h.d
  f := fun h1 => by
    obtain ⟨g, h2, h3⟩ := h.f h1
    exact ⟨g, h2, h3.alloc _⟩
theorem LvI.p9 (h : LvI B nums x y L e W) (h9 : L 9 = false) {g k d : Nat} (hv : Own encI 3 1 W' B (.slice (some ⟨g, 0, none⟩) k d) (nums ++ [x])) : LvI B nums x y (updD L 9 true) (updD e 85 (.slice (some ⟨g, 0, none⟩) k d)) W' where
  o1 := fun h1 => by cases h1
  o2 := h.o2
  a := fun h1 => by cases h1
  b := fun h1 => by cases h1
  c := fun _ => ⟨g, k, d, rfl, hv⟩
  d := fun h1 => by have h2 : L 10 = true := h1; rw [h.o1 h9] at h2; cases h2
  f := fun h1 => by have h2 : L 11 = true := h1; rw [h.o2 (h.o1 h9)] at h2; cases h2
theorem LvI.p10 (h : LvI B nums x y L e W) (h9 : L 9 = true) {u : Value} (hu : e 85 = u) : LvI B nums x y (updD L 10 true) (updD e 86 (.agg #[.int .i64 y, u])) W where
  o1 := fun h1 => by have h2 : L 9 = false := h1; rw [h9] at h2; cases h2
  o2 := fun h1 => by cases h1
  a := h.a
  b := h.b
  c := h.c
  d := fun _ => by subst hu; rfl
  f := h.f
theorem LvI.p11 (h : LvI B nums x y L e W) (h9 : L 10 = true) {u : Value} (hu : e 85 = u) : LvI B nums x y (updD L 11 true) (updD e 87 (.slice (some ⟨W.heap.size, 0, none⟩) 1 1)) (W.alloc (.cells #[.int .i64 y, u] 145)) where
  o1 := h.o1
  o2 := fun h1 => by have h2 : L 10 = false := h1; rw [h9] at h2; cases h2
  a := fun h1 h2 => (h.a h1 h2).alloc _
  b := fun h1 h2 => by
    obtain ⟨g, h3, h4, h5⟩ := h.b h1 h2
    exact ⟨g, h3, by simp; omega, ((Ext.al W _).cell (p := ⟨g, 0, none⟩) h4).trans h5⟩
  c := fun h1 => by
    obtain ⟨g, k, d, h2, h3⟩ := h.c h1
    exact ⟨g, k, d, h2, h3.alloc _⟩
  d := h.d
  f := fun h1 => ⟨W.heap.size, rfl, by subst hu; exact Blk.new _ _ _⟩
end
end Go.Proofs.YtafdbgielmlihaaDoor
