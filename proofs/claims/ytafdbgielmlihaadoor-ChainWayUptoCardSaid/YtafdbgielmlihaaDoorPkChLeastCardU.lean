/- The program's Way, part one: the list of ways in memory, and the region that puts a way behind it. -/
import Derived.Test.YtafdbgielmlihaaDoorPkChLeastCardO
import Derived.Test.YtafdbgielmlihaaDoorPkChLeastCardT
import Derived.Test.YtafdbgielmlihaaDoorPkChLeastCardJ
import Derived.Test.YtafdbgielmlihaaDoorPkChLeastCardD
import Derived.Test.YtafdbgielmlihaaDoorPkChLeastCardS
import Derived.Test.YtafdbgielmlihaaDoorPkChLeastCardE
import Derived.Test.YtafdbgielmlihaaDoorPkChLeastCardC
import Derived.Test.YtafdbgielmlihaaDoorPkChLeastCardR
import Derived.Test.YtafdbgielmlihaaDoorPkChLeastCardN
namespace Go.Proofs.YtafdbgielmlihaaDoor
open Go.RowKit Go.Shelf Go.Lib
set_option maxRecDepth 100000
set_option linter.unusedSimpArgs false

abbrev WyV := Int × Option Addr × Nat × Nat
def slV (u : Option Addr × Nat × Nat) : Value := .slice u.1 u.2.1 u.2.2
def encWy (e : WyV) : List Value := [.int .i64 e.1, slV e.2]
theorem encWy_1 : ∀ x, ∀ u ∈ encWy x, u.oneCell' = true := by
  intro x u hu
  simp only [encWy, List.mem_cons, List.not_mem_nil, or_false] at hu
  rcases hu with rfl | rfl <;> rfl
theorem info145x : (Tryd.prog.info? 145).map (fun i => (i.zero, i.size, i.bytes)) = some (some (.agg #[.int .i64 0, .slice none 0 0]), 2, 32) := by kernel_rfl
theorem own_diff {α β : Type} {enc : α → List Value} {enc' : β → List Value} {sz sz' base base' : Nat} {e e' : TypeId} {W W' : World} {v v' : Value} {l : List α} {l' : List β} (h : Own enc e sz W base v l) (h' : Own enc' e' sz' W base' v' l') (hne : e ≠ e') (k : W.grownBy W' v'.ownBlock) : Own enc e sz W' base v l := by
  refine own_same h fun g hg => ?_
  have hr := own_rng h hg
  refine k.block g hr.2 fun he => ?_
  rcases h.2 with ⟨rfl, -⟩ | ⟨g1, c1, cur1, rfl, -, hg1, -⟩
  · simp [Value.ownBlock] at hg
  · rcases h'.2 with ⟨rfl, -⟩ | ⟨g2, c2, cur2, rfl, -, hg2, -⟩
    · simp [Value.ownBlock] at he
    · have e1 : g1 = g := by simpa [Value.ownBlock] using hg
      have e2 : g = g2 := by simpa [Value.ownBlock] using he
      rw [e1] at hg1; rw [← e2, hg1] at hg2
      injection hg2 with hg2
      injection hg2 with _ hg2
      exact hne hg2
/-- A list of ways in memory. -/
def WLs (W : World) (B : Nat) (v : Value) (L : List Wy) : Prop :=
  ∃ Vs : List WyV, Own encWy 145 2 W B v Vs ∧ Vs.length = L.length ∧ ∀ (i : Nat) (u : WyV) (e : Wy), Vs[i]? = some u → L[i]? = some e → u.1 = e.1 ∧ Own encI 3 1 W 0 (slV u.2) e.2
theorem WLs.nil (W : World) (B : Nat) : WLs W B (.slice none 0 0) [] := ⟨[], Own.nil _ _, rfl, fun i u e h => by simp at h⟩
theorem WLs.ext {W W' : World} {B : Nat} {v : Value} {L : List Wy} (h : WLs W B v L) (k : Ext W W') : WLs W' B v L := by
  obtain ⟨Vs, h1, h2, h3⟩ := h
  exact ⟨Vs, h1.ext k, h2, fun i u e hu he => ⟨(h3 i u e hu he).1, (h3 i u e hu he).2.ext k⟩⟩
theorem WLs.offC {W W' : World} {B q : Nat} {v : Value} {L : List Wy} (h : WLs W B v L) (k : W.grownBy W' (some q)) (hq : NoC W q) : WLs W' B v L := by
  obtain ⟨Vs, h1, h2, h3⟩ := h
  exact ⟨Vs, own_offC h1 k hq, h2, fun i u e hu he => ⟨(h3 i u e hu he).1, own_offC (h3 i u e hu he).2 k hq⟩⟩
theorem WLs.mono {W : World} {B B' : Nat} {v : Value} {L : List Wy} (h : WLs W B v L) (hb : B' ≤ B) : WLs W B' v L := by
  obtain ⟨Vs, h1, h2, h3⟩ := h
  exact ⟨Vs, h1.mono hb, h2, h3⟩
theorem WLs.off {W W' : World} {B q : Nat} {v : Value} {L : List Wy} (h : WLs W B v L) (k : OffB (· = q) W W') (hq : NoC W q) : WLs W' B v L := by
  obtain ⟨Vs, h1, h2, h3⟩ := h
  have key : ∀ {α : Type} {enc : α → List Value} {e : TypeId} {sz base : Nat} {v : Value} {l : List α}, Own enc e sz W base v l → Own enc e sz W' base v l := by
    intro α enc e sz base v l h
    refine own_same h fun g hg => k.block g (own_rng h hg).2 fun e => ?_
    exact own_neC h hq (by rw [hg, e])
  exact ⟨Vs, key h1, h2, fun i u e hu he => ⟨(h3 i u e hu he).1, key (h3 i u e hu he).2⟩⟩
theorem MapB.noC {W : World} {m n : Nat} {g : Int → Bool} (h : MapB W m n g) : NoC W m := h.noCells
/-- A way of the list. -/
theorem WLs.at_ {W : World} {B : Nat} {A : Option Addr} {n cp : Nat} {L : List Wy} (h : WLs W B (.slice A n cp) L) {i : Nat} {e : Wy} (he : L[i]? = some e) :
    ∃ b off Av nv cv, A = some ⟨b, off, none⟩ ∧ (i : Int) < (n : Int) ∧ Own encI 3 1 W 0 (.slice Av nv cv) e.2 ∧ W.cell? ⟨b, off + i * 2, none⟩ = some (.int .i64 e.1) ∧ W.cell? ⟨b, off + i * 2 + 1, none⟩ = some (.slice Av nv cv) := by
  obtain ⟨Vs, h1, h2, h3⟩ := h
  have hl := (List.getElem?_eq_some_iff.1 he).1
  have hs := Own.sl (enc := encWy) (fun _ => rfl) h1
  obtain ⟨A', n', cp', e1, e2, -, -⟩ := hs.form
  injection e1 with e3 e4 e5
  subst e3 e4 e5
  have hn : n = L.length := by rw [← h2]; exact e2.out
  obtain ⟨b, off, u, rfl, hu, -, hc⟩ := hs.at_ (k := i) (by omega)
  obtain ⟨h4, h5⟩ := h3 i u e hu he
  refine ⟨b, off, u.2.1, u.2.2.1, u.2.2.2, rfl, by omega, h5, ?_, hc W (Ext.refl _) 1 _ rfl⟩
  have := hc W (Ext.refl _) 0 _ rfl
  rw [h4] at this
  simpa using this
theorem WLs.form {W : World} {B : Nat} {v : Value} {L : List Wy} (h : WLs W B v L) : ∃ A n c, v = .slice A n c ∧ Hid (n = L.length) := by
  obtain ⟨Vs, h1, h2, -⟩ := h
  obtain ⟨A, n, c, rfl, hn, -, -⟩ := (Own.sl (enc := encWy) (fun _ => rfl) h1).form
  exact ⟨A, n, c, rfl, Lib.hid (by have := hn.out; omega)⟩
/-- What is known while the region that draws its order is gone through. -/
structure LvI (B : Nat) (nums : List Int) (x y : Int) (L : Nat → Bool) (e : Nat → Value) (W : World) : Prop where
  o1 : L 9 = false → L 10 = false
  o2 : L 10 = false → L 11 = false
  a : L 9 = false → L 5 = true → Own encI 3 1 W B (e 81) nums
  b : L 9 = false → L 8 = true → ∃ g, e 84 = .slice (some ⟨g, 0, none⟩) 1 1 ∧ g < W.heap.size ∧ W.cell? ⟨g, 0, none⟩ = some (.int .i64 x)
  c : L 9 = true → ∃ g k d, e 85 = .slice (some ⟨g, 0, none⟩) k d ∧ Own encI 3 1 W B (.slice (some ⟨g, 0, none⟩) k d) (nums ++ [x])
  d : L 10 = true → e 86 = .agg #[.int .i64 y, e 85]
  f : L 11 = true → ∃ g, e 87 = .slice (some ⟨g, 0, none⟩) 1 1 ∧ Blk W g 145 #[.int .i64 y, e 85]
theorem LvI.start {B : Nat} {nums : List Int} {x y : Int} {e : Nat → Value} {W : World} : LvI B nums x y (fun _ => false) e W :=
  ⟨fun _ => rfl, fun _ => rfl, fun _ h => (by cases h), fun _ h => (by cases h), fun h => (by cases h), fun h => (by cases h), fun h => (by cases h)⟩
theorem LvI.keep {B : Nat} {nums : List Int} {x y : Int} {L : Nat → Bool} {e : Nat → Value} {W : World} (h : LvI B nums x y L e W) {i d : Nat} (hi : (5 ≠ i ∧ 8 ≠ i ∧ 9 ≠ i ∧ 10 ≠ i ∧ 11 ≠ i) ∧ 81 ≠ d ∧ 84 ≠ d ∧ 85 ≠ d ∧ 86 ≠ d ∧ 87 ≠ d) (v : Value) : LvI B nums x y (updD L i true) (updD e d v) W := by
  obtain ⟨⟨i5, i8, i9, i10, i11⟩, d1, d4, d5, d6, d7⟩ := hi
  obtain ⟨o1, o2, a, b, c, d, f⟩ := h
  rw [← updD_ne (f := L) (v := true) i9] at o1 a b c
  rw [← updD_ne (f := L) (v := true) i10] at o1 o2 d
  rw [← updD_ne (f := L) (v := true) i11] at o2 f
  rw [← updD_ne (f := L) (v := true) i5] at a
  rw [← updD_ne (f := L) (v := true) i8] at b
  rw [← updD_ne (f := e) (v := v) d1] at a
  rw [← updD_ne (f := e) (v := v) d4] at b
  rw [← updD_ne (f := e) (v := v) d5] at c d f
  rw [← updD_ne (f := e) (v := v) d6] at d
  rw [← updD_ne (f := e) (v := v) d7] at f
  exact ⟨o1, o2, a, b, c, d, f⟩
section
variable {B : Nat} {nums : List Int} {x y : Int} {L : Nat → Bool} {e : Nat → Value} {W W' : World}
theorem LvI.p5 (h : LvI B nums x y L e W) (hE : Ext W W') {v : Value} (hv : Own encI 3 1 W' B v nums) : LvI B nums x y (updD L 5 true) (updD e 81 v) W' where
  o1 := h.o1
  o2 := h.o2
  a := fun _ _ => hv
  b := fun h1 h2 => by
    obtain ⟨g, h3, h4, h5⟩ := h.b h1 h2
    exact ⟨g, h3, Nat.lt_of_lt_of_le h4 hE.size, (hE.cell (p := ⟨g, 0, none⟩) h4).trans h5⟩
  c := fun h1 => by
    obtain ⟨g, k, d, h2, h3⟩ := h.c h1
    exact ⟨g, k, d, h2, h3.ext hE⟩
  d := h.d
  f := fun h1 => by
    obtain ⟨g, h2, h3⟩ := h.f h1
    exact ⟨g, h2, h3.ext hE⟩
theorem LvI.p8 (h : LvI B nums x y L e W) : LvI B nums x y (updD L 8 true) (updD e 84 (.slice (some ⟨W.heap.size, 0, none⟩) 1 1)) (W.alloc (.cells #[.int .i64 x] 3)) where
  o1 := h.o1
  o2 := h.o2
  a := fun h1 h2 => (h.a h1 h2).alloc _
  b := fun h1 h2 => ⟨W.heap.size, rfl, by simp, by simp⟩
  c := fun h1 => by
    obtain ⟨g, k, d, h2, h3⟩ := h.c h1
    exact ⟨g, k, d, h2, h3.alloc _⟩
  d := h.d
  f := fun h1 => by
    obtain ⟨g, h2, h3⟩ := h.f h1
    exact ⟨g, h2, h3.alloc _⟩
theorem LvI.p9 (h : LvI B nums x y L e W) (h9 : L 9 = false) {g k d : Nat} (hv : Own encI 3 1 W' B (.slice (some ⟨g, 0, none⟩) k d) (nums ++ [x])) : LvI B nums x y (updD L 9 true) (updD e 85 (.slice (some ⟨g, 0, none⟩) k d)) W' where
  o1 := fun h1 => by cases h1
  o2 := h.o2
  a := fun h1 => by cases h1
  b := fun h1 => by cases h1
  c := fun _ => ⟨g, k, d, rfl, hv⟩
  d := fun h1 => by have h2 : L 10 = true := h1; rw [h.o1 h9] at h2; cases h2
  f := fun h1 => by have h2 : L 11 = true := h1; rw [h.o2 (h.o1 h9)] at h2; cases h2
theorem LvI.p10 (h : LvI B nums x y L e W) (h9 : L 9 = true) {u : Value} (hu : e 85 = u) : LvI B nums x y (updD L 10 true) (updD e 86 (.agg #[.int .i64 y, u])) W where
  o1 := fun h1 => by have h2 : L 9 = false := h1; rw [h9] at h2; cases h2
  o2 := fun h1 => by cases h1
  a := h.a
  b := h.b
  c := h.c
  d := fun _ => by subst hu; rfl
  f := h.f
theorem LvI.p11 (h : LvI B nums x y L e W) (h9 : L 10 = true) {u : Value} (hu : e 85 = u) : LvI B nums x y (updD L 11 true) (updD e 87 (.slice (some ⟨W.heap.size, 0, none⟩) 1 1)) (W.alloc (.cells #[.int .i64 y, u] 145)) where
  o1 := h.o1
  o2 := fun h1 => by have h2 : L 10 = false := h1; rw [h9] at h2; cases h2
  a := fun h1 h2 => (h.a h1 h2).alloc _
  b := fun h1 h2 => by
    obtain ⟨g, h3, h4, h5⟩ := h.b h1 h2
    exact ⟨g, h3, by simp; omega, ((Ext.al W _).cell (p := ⟨g, 0, none⟩) h4).trans h5⟩
  c := fun h1 => by
    obtain ⟨g, k, d, h2, h3⟩ := h.c h1
    exact ⟨g, k, d, h2, h3.alloc _⟩
  d := h.d
  f := fun h1 => ⟨W.heap.size, rfl, by subst hu; exact Blk.new _ _ _⟩
end
end Go.Proofs.YtafdbgielmlihaaDoor
/- The reference's SameHands; the law ChainHands: the walk. -/
namespace Go.Proofs.YtafdbgielmlihaaDoor
open Go.RowKit Go.Shelf Go.Lib
set_option maxRecDepth 100000
set_option linter.unusedSimpArgs false

theorem hnd_cells {b off i : Nat} {x : Hnd} {w W : World} (h : ∀ W, Ext w W → ∀ j u, (encHd x)[j]? = some u → W.cell? ⟨b, off + i * 3 + j, none⟩ = some u) (e : Ext w W) :
    W.cell? ⟨b, off + i * 3, none⟩ = some (.int .i64 x.a) ∧ W.cell? ⟨b, off + i * 3 + 1, none⟩ = some (.int .i64 x.b) ∧ W.cell? ⟨b, off + i * 3 + 2, none⟩ = some (.int .i64 x.n) :=
  ⟨by simpa using h W e 0 _ rfl, h W e 1 _ rfl, h W e 2 _ rfl⟩
theorem neq99s (a b x : Int) (w : World) : (binOp .neq 99 (.agg #[.int .i64 a, .int .i64 b, .int .i64 x]) (.agg #[.int .i64 a, .int .i64 b, .int .i64 x])).run Tryd.prog w = .ok (.bool false) w := by
  have u3 := Tryd.underlying3
  have a3 := Tryd.isAgg3
  have z3 := Tryd.sizeOf3
  rw [run_neq_struct, show (10000 : Nat) = 9999 + 1 from rfl, run_equalIn_agg w 9999 99 _ _ und99 held99]
  simp only [Program.fieldsOf, Tryd.underlying99]
  go_simp
theorem sameHands_any (l : List Hnd) (v v' : Value) (w : World) (h : Sl encHd 3 w v l) (h' : Sl encHd 3 w v' l) :
    Calls Tryd.prog 32 #[v, v'] w fun e w' => e = .returned (.bool true) ∧ Ext w w' := by
  have HA := Lib.hid h
  have HB := Lib.hid h'
  obtain ⟨A, n, cp, rfl, hn, hlc, hcm⟩ := h.form
  obtain ⟨A2, n2, cp2, rfl, hn2, hlc2, hcm2⟩ := h'.form
  have hnn : n2 = n := by have := hn.out; have := hn2.out; omega
  subst hnn
  have nq := fun a b x w => neq99s a b x w
  clear h h'
  go_enter Tryd.func32, Tryd.ntmps32
  go_wp2
  go_loopg [5] n2 (fun gg s wr => ∃ (k : Nat), k ≤ n2 ∧ n2 - k ≤ gg ∧ s = .int .i64 k ∧ Aside (Ext w wr))
  case atStart => exact ⟨0, by omega, by omega, rfl, Ext.refl _⟩
  case round =>
    obtain ⟨k, hk, hg, rfl, EW⟩ := hrel
    by_cases hlt : k < n2
    · have hjz : (k : Int) < (n2 : Int) := by omega
      obtain ⟨bb, off, x, rfl, hx, hb, hcell⟩ := HA.out.at_ hlt
      obtain ⟨bb', off', x', rfl, hx', hb', hcell'⟩ := HB.out.at_ hlt
      have hxx : x' = x := by rw [hx] at hx'; injection hx' with h; exact h.symm
      subst hxx
      have c0 := fun W (h : Ext wr W) => (hnd_cells hcell (EW.out.trans h)).1
      have c1 := fun W (h : Ext wr W) => (hnd_cells hcell (EW.out.trans h)).2.1
      have c2 := fun W (h : Ext wr W) => (hnd_cells hcell (EW.out.trans h)).2.2
      have d0 := fun W (h : Ext wr W) => (hnd_cells hcell' (EW.out.trans h)).1
      have d1 := fun W (h : Ext wr W) => (hnd_cells hcell' (EW.out.trans h)).2.1
      have d2 := fun W (h : Ext wr W) => (hnd_cells hcell' (EW.out.trans h)).2.2
      clear hx hx' hcell hcell'
      go_wp2
      refine wp_region_tame (fun W => Ext wr W) (fun W W' => Ext W W') (by kernel_rfl) 26 rfl (by decide +kernel) (Ext.refl _).drew ?_
      repeat (apply tame_q rfl; (intro ρ W hC hr hD; (obtain ⟨hrc, hrg, hrf, hrs⟩ := hr); (simp [go_sem] at hD); go_simp; first | exact ⟨⟨hC, Ext.refl _⟩, rfl⟩ | exact ⟨⟨hC, RS.refl _⟩, rfl⟩ | exact rfl); simp only [List.nil_append, List.cons_append])
      refine tame_end 26 rfl rfl (fun ρ W hC hr hF => ?_)
      obtain ⟨hrc, hrg, hrf, hrs⟩ := hr
      simp [go_sem] at hF
      apply frame_to
      · go_simp
        exact rfl
      clear hF hrs hrc hrg hrf
      have HC := Lib.hid hC; clear hC c0 c1 c2 d0 d1 d2
      go_wp2
      go_roundg (n2 - (k + 1))
      case measure => omega
      case rel => exact ⟨k + 1, by omega, by omega, rfl, EW.out.trans HC.out⟩
    · go_wp2
      go_ret
      exact ⟨rfl, EW.out⟩
end Go.Proofs.YtafdbgielmlihaaDoor
/- Sum, closes, and other small functions of the outright laws (layer 6). -/
namespace Go.Proofs.YtafdbgielmlihaaDoor
open Go.RowKit Go.Shelf Go.Lib
set_option maxRecDepth 100000
set_option linter.unusedSimpArgs false

/-- The examples hold. -/
def AliveT : Prop := ∀ w, Tab w → Calls Tryd.prog 55 #[] w fun e w' => e = .returned (.bool true) ∧ Ext w w'
theorem lawSum_any (l : List Int) (v : Value) (w : World) (h : SlI w v l) (hl : l.length ≤ 100) (hb : ∀ y ∈ l, -1000000000 ≤ y ∧ y ≤ 1000000000) :
    Calls Tryd.prog 62 #[v] w fun e w' => e = .returned (.int .i64 (sumI l)) ∧ Ext w w' := by
  have HS := Lib.hid h; have HL := Lib.hid hl; have HB := Lib.hid hb
  obtain ⟨A, n, cp, rfl, hn, hlc, hcm⟩ := h.form
  clear h hl hb
  go_enter Tryd.func62, Tryd.ntmps62
  go_wp2
  go_loopg [3, 8] n (fun gg a s wr => ∃ kk : Nat, kk ≤ n ∧ n - kk ≤ gg ∧ s = .int .i64 kk ∧ a = .int .i64 (sumI (l.take kk)) ∧ Aside (Ext w wr))
  case atStart => exact ⟨0, Nat.zero_le _, by omega, rfl, rfl, Ext.refl _⟩
  case round =>
    obtain ⟨kk, hle, hm2, rfl, rfl, EX⟩ := hrel
    have EX := Lib.hid EX.out
    have B1 := Lib.hid (sumI_bd (B := 1000000000) (by decide) (l.take kk) fun y hy => HB.out y (List.mem_of_mem_take hy))
    have hB1 : -100000000000 ≤ sumI (l.take kk) ∧ sumI (l.take kk) ≤ 100000000000 := by
      have := B1.out; have := HL.out; have h3 : (l.take kk).length ≤ l.length := by rw [List.length_take]; omega
      omega
    by_cases hlt : kk < n
    · have hltz : (kk : Int) < (n : Int) := by omega
      obtain ⟨b, off, x, rfl, hx, hbd, hcell⟩ := HS.out.at_ hlt
      have HY := Lib.hid (HB.out x (List.mem_of_getElem? hx))
      have hw1 : IntKind.i64.wrap (sumI (l.take kk) + x) = sumI (l.take kk) + x := by rw [IntKind.wrap_i64]; have := HY.out; omega
      have HST := Lib.hid (sumI_snoc hx)
      generalize sumI (l.take kk) = P at *
      have r0 : wr.cell? ⟨b, off + kk, none⟩ = some (.int .i64 x) := by simpa using hcell wr EX.out 0 _ rfl
      clear hx hcell
      go_wp2
      go_roundg (n - (kk + 1))
      case measure => omega
      case rel => exact ⟨kk + 1, by omega, by omega, by simp, by rw [HST.out], EX.out⟩
    · have HE := Lib.hid (show sumI (l.take kk) = sumI l by rw [List.take_of_length_le (by have := hn.out; omega)])
      rw [HE.out]
      go_wp2
      go_ret
      exact ⟨rfl, EX.out⟩
set_option maxHeartbeats 2000000 in
/-- Numbers that close the chain are taken for it. -/
theorem closes_any (c : Chn) (m : List Int) (hv sv mv : Value) (w : World) (hC : Closes c m) (hR : Right c) (hN : c.sales.length ≤ 10) (hh : SlI w hv c.houses) (hs : SlL w sv c.sales) (hm : SlI w mv m) :
    Calls Tryd.prog 61 #[valC hv sv, mv] w fun e w' => e = .returned (.bool true) ∧ Ext w w' := by
  have HH := Lib.hid hh; have HS := Lib.hid hs; have HM := Lib.hid hm; have HR := Lib.hid hR; have HC := Lib.hid hC; have HN := Lib.hid hN
  obtain ⟨A, n, cp, rfl, hn, hlc, hcm⟩ := hh.form
  obtain ⟨A2, n2, cp2, rfl, hn2, hlc2, hcm2⟩ := hs.form
  obtain ⟨A3, n3, cp3, rfl, hn3, hlc3, hcm3⟩ := hm.form
  have hn3e : n3 = n2 := by have := hn2.out; have := hn3.out; have := HC.out.len; omega
  subst hn3e
  clear hh hs hm hR hC hN
  have B0 := Lib.hid (show Blk (w.alloc (.cells #[.slice A n cp, .slice A2 n3 cp2] 25)) w.heap.size 25 #[.slice A n cp, .slice A2 n3 cp2] from Blk.new _ _ _)
  go_enter Tryd.func61, Tryd.ntmps61
  go_wp2
  go_loopg [15] n3 (fun gg s wr => ∃ kk : Nat, kk ≤ n3 ∧ n3 - kk ≤ gg ∧ s = .int .i64 kk ∧ Aside (Ext (w.alloc (.cells #[.slice A n cp, .slice A2 n3 cp2] 25)) wr))
  case atStart => exact ⟨0, Nat.zero_le _, by omega, rfl, Ext.refl _⟩
  case round =>
    obtain ⟨kk, hle, hm2, rfl, EX⟩ := hrel
    have EX := Lib.hid EX.out
    have EW := Lib.hid ((Ext.al w (.cells #[.slice A n cp, .slice A2 n3 cp2] 25)).trans EX.out)
    have BW := Lib.hid (B0.out.ext EX.out)
    by_cases hlt : kk < n3
    · have hltz : (kk : Int) < (n3 : Int) := by omega
      obtain ⟨b, off, x, rfl, hx, hbd, hcell⟩ := HS.out.at_ hlt
      obtain ⟨b3, off3, y, rfl, hy, hbd3, hcell3⟩ := HM.out.at_ hlt
      have HY := Lib.hid (HC.out.bd kk x y hx hy)
      have hy0 : ¬ y < 0 := by have := HY.out; omega
      have hy1 : ¬ x.bales < y := by have := HY.out; omega
      obtain ⟨c0, c1, c2, c3, c4⟩ := SlL.cells hcell EW.out
      have r1 : wr.cell? ⟨b3, off3 + kk, none⟩ = some (.int .i64 y) := by simpa using hcell3 wr EW.out 0 _ rfl
      clear hx hy hcell hcell3
      have t0 := BW.out.c2
      go_wp2
      go_roundg (n3 - (kk + 1))
      case measure => omega
      case rel => exact ⟨kk + 1, by omega, by omega, by simp, EX.out⟩
    · have m0 := fun W (h : Ext wr W) => (BW.out.ext h).c2
      go_wp2
      have h6 := HR.out.h6
      refine wp_region_tame (fun W => Ext wr W) (fun W W' => Ext W W') (by kernel_rfl) 41 rfl (by decide +kernel) (Ext.refl _).drew ?_
      repeat (apply tame_q rfl; (intro ρ W hC hr hD; (obtain ⟨hrc, hrg, hrf, hrs⟩ := hr); (simp [go_sem] at hD); go_simp; first | exact ⟨⟨hC, Ext.refl _⟩, rfl⟩ | exact ⟨⟨hC, RS.refl _⟩, rfl⟩ | exact rfl); simp only [List.nil_append, List.cons_append])
      apply tame_v rfl (fun v W => SlI W v (getsL c m)) (fun v W W' _ hE h => h.ext hE)
      · intro ρ W hC hr hD
        obtain ⟨hrc, hrg, hrf, hrs⟩ := hr
        simp [go_sem] at hD
        go_simp
        refine (refGets_any c m _ _ _ W (HH.out.ext (EW.out.trans hC)) (HS.out.ext (EW.out.trans hC)) (HM.out.ext (EW.out.trans hC)) HR.out (by have := HN.out; omega) HC.out.len (fun y hy => by have := closes_nine HR.out HC.out y hy; omega)).mono ?_
        rintro e w' ⟨⟨g, rfl, hg, hr⟩, hE⟩
        exact ⟨_, rfl, ⟨hC.trans hE, hE⟩, hr.sl (by unfold maxLen; simp [getsL]; omega)⟩
      simp only [List.nil_append, List.cons_append]
      repeat (apply tame_q rfl; (intro ρ W hC hr hD; (obtain ⟨hrc, hrg, hrf, hrs⟩ := hr); (simp [go_sem] at hD); go_simp; first | exact ⟨⟨hC, Ext.refl _⟩, rfl⟩ | exact ⟨⟨hC, RS.refl _⟩, rfl⟩ | exact rfl); simp only [List.nil_append, List.cons_append])
      apply tame_v rfl (fun v W => SlI W v (balesOf c)) (fun v W W' _ hE h => h.ext hE)
      · intro ρ W hC hr hD
        obtain ⟨hrc, hrg, hrf, hrs⟩ := hr
        simp [go_sem] at hD
        go_simp
        refine (f66_any c _ _ W (HH.out.ext (EW.out.trans hC)) (HS.out.ext (EW.out.trans hC)) (by have := HN.out; omega)).mono ?_
        rintro e w' ⟨⟨v', rfl, ho⟩, hE⟩
        exact ⟨_, rfl, ⟨hC.trans hE, hE⟩, ho.sl (fun _ => rfl)⟩
      simp only [List.nil_append, List.cons_append]
      apply tame_v rfl (fun v W => SlI W v (getsL c m)) (fun v W W' _ hE h => h.ext hE)
      · intro ρ W hC hr hD
        obtain ⟨hrc, hrg, hrf, hrs⟩ := hr
        simp [go_sem] at hD
        obtain ⟨d1, d3⟩ := hD
        go_simp
        refine (refGets_any c (balesOf c) _ _ _ W (HH.out.ext (EW.out.trans hC)) (HS.out.ext (EW.out.trans hC)) d3 HR.out (by have := HN.out; omega) (bales_len c) (bales_bd HR.out)).mono ?_
        rintro e w' ⟨⟨g, rfl, hg, hr⟩, hE⟩
        refine ⟨_, rfl, ⟨hC.trans hE, hE⟩, ?_⟩
        rw [closes_gets HC.out]
        exact hr.sl (by unfold maxLen; simp [getsL]; omega)
      simp only [List.nil_append, List.cons_append]
      apply tame_q rfl
      · intro ρ W hC hr hD
        obtain ⟨hrc, hrg, hrf, hrs⟩ := hr
        simp [go_sem] at hD
        obtain ⟨d1, d3⟩ := hD
        go_simp
        refine (sameInts_any _ _ _ _ d1 d3).mono ?_
        rintro e w' ⟨rfl, hE⟩
        exact ⟨_, rfl, ⟨hC.trans hE, hE⟩, rfl⟩
      simp only [List.nil_append, List.cons_append]
      repeat (apply tame_q rfl; (intro ρ W hC hr hD; (obtain ⟨hrc, hrg, hrf, hrs⟩ := hr); (simp [go_sem] at hD); go_simp; first | exact ⟨⟨hC, Ext.refl _⟩, rfl⟩ | exact ⟨⟨hC, RS.refl _⟩, rfl⟩ | exact rfl); simp only [List.nil_append, List.cons_append])
      refine tame_end_put rfl rfl (fun ρ W hC hr hF => ?_)
      simp [go_sem] at hF
      obtain ⟨f1, f2, -, f4, f5, -, -, f8, f9⟩ := hF
      simp only [putF, f1, f2, f4, f5, f8, f9, List.set_cons_succ, List.set_cons_zero]
      generalize ρ (Operand.tmp 35) = v35
      generalize ρ (Operand.tmp 38) = v38
      generalize ρ (Operand.tmp 39) = v39
      have EF := Lib.hid (EW.out.trans hC)
      clear f1 f2 f4 f5 f8 f9 hr hC m0
      go_wp2
      go_ret
      exact ⟨rfl, EF.out⟩
end Go.Proofs.YtafdbgielmlihaaDoor
/- The law ChainLeast: the walk, but for alive. -/
namespace Go.Proofs.YtafdbgielmlihaaDoor
open Go.RowKit Go.Shelf Go.Lib
set_option maxRecDepth 100000
set_option linter.unusedSimpArgs false

/-- At the first place where they part the lesser list has the lesser number. -/
theorem lex_first : ∀ {l m : List Int} {k : Nat} {z y : Int}, l = m ∨ lexLt l m → l[k]? = some z → m[k]? = some y → (∀ j, j < k → l[j]? = m[j]?) → z ≠ y → z < y
  | l, m, k, z, y, .inl h, hz, hy, _, hne => by
    subst h
    rw [hz] at hy
    injection hy with hy
    exact absurd hy hne
  | [], _, _, _, _, .inr h, _, _, _, _ => by simp [lexLt] at h
  | _ :: _, [], _, _, _, .inr h, _, _, _, _ => by simp [lexLt] at h
  | a :: l, b :: m, 0, z, y, .inr h, hz, hy, _, hne => by
    simp at hz hy
    subst hz hy
    rcases h with h | ⟨h, _⟩
    · exact h
    · exact absurd h hne
  | a :: l, b :: m, k + 1, z, y, .inr h, hz, hy, he, hne => by
    have h0 := he 0 (by omega)
    simp at h0
    subst h0
    rcases h with h | ⟨_, h⟩
    · omega
    · exact lex_first (.inr h) (by simpa using hz) (by simpa using hy) (fun j hj => by simpa using he (j + 1) (by omega)) hne
set_option maxHeartbeats 8000000 in
theorem leastLaw_of (hA : AliveT) (c : Chn) (by_ : List Int) (hv sv bv : Value) (w : World) (hT : Tab w) (hh : SlI w hv c.houses) (hs : SlL w sv c.sales) (hbs : Sl encU 1 w bv by_) (hb : ∀ k ∈ by_, 0 ≤ k ∧ k ≤ 255) :
    Calls Tryd.prog 11 #[valC hv sv, bv] w fun e w' => e = .returned (.bool true) ∧ Ext w w' := by
  have HT := Lib.hid hT; have HH := Lib.hid hh; have HS := Lib.hid hs; have HBS := Lib.hid hbs; have HBY := Lib.hid hb
  obtain ⟨A, n, cp, rfl, hn, hlc, hcm⟩ := hh.form
  obtain ⟨A2, n2, cp2, rfl, hn2, hlc2, hcm2⟩ := hs.form
  obtain ⟨Ab, nb, cb, rfl, hnb, -, -⟩ := hbs.form
  obtain ⟨l, hcl⟩ := closeOf_exists c
  have HCL := Lib.hid hcl
  have B0 := Lib.hid (show Blk (w.alloc (.cells #[.slice A n cp, .slice A2 n2 cp2] 25)) w.heap.size 25 #[.slice A n cp, .slice A2 n2 cp2] from Blk.new _ _ _)
  have E0 := Lib.hid (Ext.al w (.cells #[.slice A n cp, .slice A2 n2 cp2] 25))
  clear hh hs hT hcl hbs hb
  go_enter Tryd.func11, Tryd.ntmps11
  go_wp2_with fail
  refine (hA _ (HT.out.ext E0.out)).mono ?_
  rintro e w1 ⟨rfl, hE⟩
  replace E0 := Lib.hid (E0.out.trans hE); replace B0 := Lib.hid (B0.out.ext hE); clear hE
  have t0 := B0.out.c2
  go_wp2_with fail
  refine (ready_any c _ _ _ (HH.out.ext E0.out) (HS.out.ext E0.out)).mono ?_
  rintro e w2 ⟨rfl, hE⟩
  replace E0 := Lib.hid (E0.out.trans hE); replace B0 := Lib.hid (B0.out.ext hE); clear hE t0
  cases hc : checkP c with
  | false =>
    clear hc
    go_wp2
    go_ret
    exact ⟨rfl, E0.out⟩
  | true =>
    have HC := Lib.hid hc; clear hc
    have HR := Lib.hid (check_right HC.out).1
    have HN := Lib.hid (check_right HC.out).2
    have HO := Lib.hid (HCL.out.1 HC.out)
    have t0 := B0.out.c2
    go_wp2_with fail
    clear t0
    refine (close_any c l _ _ _ HCL.out (HT.out.ext E0.out) (HH.out.ext E0.out) (HS.out.ext E0.out) (by have := HN.out; omega)).mono ?_
    rintro e w3 ⟨⟨v6, rfl, hu⟩, hE⟩
    rw [HC.out]
    dsimp only [errB, if_true]
    have ML := Lib.hid hu
    replace E0 := Lib.hid (E0.out.trans hE); replace B0 := Lib.hid (B0.out.ext hE)
    clear hE hu
    obtain ⟨Am, nm, cm, rfl, hnm, -, -⟩ := ML.out.form
    have HLC := Lib.hid (closes_close HO.out)
    have em : n2 = nm := by have := hn2.out; have := hnm.out; have := HLC.out.len; omega
    subst em
    clear hnm
    have t0 := B0.out.c2
    go_wp2_with fail
    clear t0
    refine (other_any c by_ _ _ _ _ HR.out HN.out HBY.out (HH.out.ext E0.out) (HS.out.ext E0.out) (HBS.out.ext E0.out)).mono ?_
    rintro e w4 ⟨⟨v9, m, rfl, hu, hcm'⟩, hE⟩
    have OL := Lib.hid hu; have HMC := Lib.hid hcm'
    replace E0 := Lib.hid (E0.out.trans hE); replace B0 := Lib.hid (B0.out.ext hE); replace ML := Lib.hid (ML.out.ext hE)
    clear hE hu hcm'
    obtain ⟨Ao, no, co, rfl, hno, -, -⟩ := OL.out.form
    have eo : n2 = no := by have := hn2.out; have := hno.out; have := HMC.out.len; omega
    subst eo
    clear hno
    have HSB := Lib.hid (fun (v : Value) (W : World) (h : SlI W v m) => lawSum_any m v W h (by have := HMC.out.len; have := HN.out; omega) (fun y hy => by have := closes_nine HR.out HMC.out y hy; omega))
    have HLE := Lib.hid (close_least HR.out (by have := HN.out; omega) HO.out HMC.out)
    have t0 := B0.out.c2
    go_wp2_with fail
    clear t0
    refine (closes_any c m _ _ _ _ HMC.out HR.out HN.out (HH.out.ext E0.out) (HS.out.ext E0.out) OL.out).mono ?_
    rintro e w5 ⟨rfl, hE⟩
    replace E0 := Lib.hid (E0.out.trans hE); replace B0 := Lib.hid (B0.out.ext hE); replace ML := Lib.hid (ML.out.ext hE); replace OL := Lib.hid (OL.out.ext hE)
    clear hE
    go_wp2_with fail
    refine (HSB.out _ _ OL.out).mono ?_
    rintro e w6 ⟨rfl, hE⟩
    replace E0 := Lib.hid (E0.out.trans hE); replace B0 := Lib.hid (B0.out.ext hE); replace ML := Lib.hid (ML.out.ext hE); replace OL := Lib.hid (OL.out.ext hE)
    clear hE
    obtain ⟨SL, hSL⟩ : ∃ SL, sumI l = SL := ⟨_, rfl⟩
    obtain ⟨SM, hSM⟩ : ∃ SM, sumI m = SM := ⟨_, rfl⟩
    have HLE2 := Lib.hid HLE.out.2
    have hle : ¬ SM < SL := by have := HLE.out.1; omega
    have HSL := Lib.hid hSL; have HSM := Lib.hid hSM
    rw [hSL, hSM]
    rw [hSM] at HSB
    clear hSL hSM HLE
    have hb2 : n2 ≤ 1000 := by have := hn2.out; have := HN.out; omega
    have t0 := B0.out.c2
    go_wp2
    clear t0
    go_loopg [57] n2 (fun gg s wr => ∃ kk : Nat, kk ≤ n2 ∧ n2 - kk ≤ gg ∧ s = .int .i64 kk ∧ Aside (Ext w6 wr))
    case atStart => exact ⟨0, Nat.zero_le _, by omega, rfl, Ext.refl _⟩
    case round =>
      obtain ⟨kk, hle', hm2, rfl, EX⟩ := hrel
      replace EX := Lib.hid EX.out
      by_cases hlt : kk < n2
      · have hltz : (kk : Int) < (n2 : Int) := by omega
        obtain ⟨bs, os, x, rfl, hx, -, hcx⟩ := HS.out.at_ hlt
        obtain ⟨c0, c1, c2, c3, c4⟩ := SlL.cells hcx (E0.out.trans EX.out)
        have hsi := saleI_at HR.out hx
        have hrE : rangeE c x.number = 0 := by unfold rangeE; rw [if_pos HC.out, if_pos (by omega)]
        obtain ⟨lo, hi, hrg⟩ := rangeOf_exists c x.number
        obtain ⟨hlo, hhi⟩ := hrg.1 hrE
        rw [hsi, Int.toNat_natCast] at hlo hhi
        obtain ⟨y, hy⟩ : ∃ y, l[kk]? = some y := ⟨_, List.getElem?_eq_getElem (by have := HLC.out.len; have := hn2.out; omega)⟩
        obtain ⟨z, hz⟩ : ∃ z, m[kk]? = some z := ⟨_, List.getElem?_eq_getElem (by have := HMC.out.len; have := hn2.out; omega)⟩
        have r1 := range_in HR.out (by have := HN.out; omega) HO.out hlo hhi HLC.out rfl
        have r2 := fun e : SM = SL => range_in HR.out (by have := HN.out; omega) HO.out hlo hhi HMC.out (by rw [HSL.out, HSM.out, e])
        have r3 := range_bd hlo hx
        have r4 := range_bd hhi hx
        rw [hy, Option.getD_some] at r1
        rw [hz, Option.getD_some] at r2
        have HRG := Lib.hid hrg; have HRE := Lib.hid hrE; have R1 := Lib.hid r1; have R2 := Lib.hid r2; have R3 := Lib.hid r3; have R4 := Lib.hid r4
        obtain ⟨am, fm, y', rfl, hy', -, hcy⟩ := ML.out.at_ hlt
        obtain ⟨ao, fo, z', rfl, hz', -, hcz⟩ := OL.out.at_ hlt
        obtain rfl : y' = y := by rw [hy] at hy'; injection hy' with h; exact h.symm
        obtain rfl : z' = z := by rw [hz] at hz'; injection hz' with h; exact h.symm
        have t0 := (B0.out.ext EX.out).c2
        have t0' := ((B0.out.ext EX.out).alloc (.cells #[.int .i64 x.number, .int .i64 x.seller, .int .i64 x.buyer, .int .i64 x.bales, .int .i64 x.price] 68)).c2
        clear hx hcx hsi hrE hrg hlo hhi hy hz hy' hz' r1 r2 r3 r4
        obtain ⟨wx, hwx⟩ : ∃ wx, wx = wr.alloc (.cells #[.int .i64 x.number, .int .i64 x.seller, .int .i64 x.buyer, .int .i64 x.bales, .int .i64 x.price] 68) := ⟨_, rfl⟩
        have EY := Lib.hid (show Ext w6 wx from hwx ▸ EX.out.alloc _)
        have BX := Lib.hid (show Blk wx wr.heap.size 68 #[.int .i64 x.number, .int .i64 x.seller, .int .i64 x.buyer, .int .i64 x.bales, .int .i64 x.price] from hwx ▸ Blk.new _ _ _)
        go_wp2_with fail
        rw [← hwx]
        clear hwx c0 c1 c2 c3 c4 t0 t0'
        refine (range_any c x.number lo hi _ _ _ HRG.out (HT.out.ext (E0.out.trans EY.out)) (HH.out.ext (E0.out.trans EY.out)) (HS.out.ext (E0.out.trans EY.out)) (by have := HN.out; omega)).mono ?_
        rintro e wq ⟨rfl, hE⟩
        rw [HRE.out]
        have EQ := Lib.hid (EY.out.trans hE); have BQ := Lib.hid (BX.out.ext hE)
        clear hE
        obtain ⟨wz, hwz⟩ : ∃ wz, wz = wq.alloc (.cells #[.int .i64 lo, .int .i64 hi] 48) := ⟨_, rfl⟩
        have EZ := Lib.hid (show Ext w6 wz from hwz ▸ EQ.out.alloc _)
        have BZ := Lib.hid (show Blk wz wq.heap.size 48 #[.int .i64 lo, .int .i64 hi] from hwz ▸ Blk.new _ _ _)
        have BW := Lib.hid (show Blk wz wr.heap.size 68 #[.int .i64 x.number, .int .i64 x.seller, .int .i64 x.buyer, .int .i64 x.bales, .int .i64 x.price] from hwz ▸ BQ.out.alloc _)
        go_wp2
        rw [← hwz]
        clear hwz
        have q0 : ¬ lo < 0 := by have := R3.out; omega
        have q1 : ¬ x.bales < hi := by have := R4.out; omega
        have q2 : ¬ y' < lo := by have := R1.out; omega
        have q3 : ¬ hi < y' := by have := R1.out; omega
        have m0 := fun W (h : Ext wz W) => (BZ.out.ext h).c2
        have m1 := fun W (h : Ext wz W) => (BW.out.ext h).c5
        have m2 := fun W (h : Ext wz W) => (show W.cell? ⟨am, fm + kk, none⟩ = some (.int .i64 y') by simpa using hcy W (EZ.out.trans h) 0 _ rfl)
        have m3 := fun W (h : Ext wz W) => (show W.cell? ⟨ao, fo + kk, none⟩ = some (.int .i64 z') by simpa using hcz W (EZ.out.trans h) 0 _ rfl)
        clear hcy hcz
        by_cases hee : SM = SL
        · have q4 : ¬ z' < lo := by have := R2.out hee; omega
          have q5 : ¬ hi < z' := by have := R2.out hee; omega
          have q6 : (SM == SL) = true := by rw [beq_iff_eq]; exact hee
          clear hee
          refine wp_region_tame (fun W => Ext wz W) (fun W W' => Ext W W') (by kernel_rfl) 155 rfl (by decide +kernel) (Ext.refl _).drew ?_
          repeat (apply tame_q rfl; (intro ρ W hC hr hD; (obtain ⟨hrc, hrg, hrf, hrs⟩ := hr); (simp [go_sem] at hD); go_simp; first | exact ⟨⟨hC, Ext.refl _⟩, rfl⟩ | exact ⟨⟨hC, RS.refl _⟩, rfl⟩ | exact rfl); simp only [List.nil_append, List.cons_append])
          apply tame_q rfl
          · intro ρ W hC hr hD
            obtain ⟨hrc, hrg, hrf, hrs⟩ := hr
            simp [go_sem] at hD
            go_simp
            refine (HSB.out _ _ (OL.out.ext (EZ.out.trans hC))).mono ?_
            rintro e w' ⟨rfl, hE⟩
            exact ⟨_, rfl, ⟨hC.trans hE, hE⟩, rfl⟩
          simp only [List.nil_append, List.cons_append]
          repeat (apply tame_q rfl; (intro ρ W hC hr hD; (obtain ⟨hrc, hrg, hrf, hrs⟩ := hr); (simp [go_sem] at hD); go_simp; first | exact ⟨⟨hC, Ext.refl _⟩, rfl⟩ | exact ⟨⟨hC, RS.refl _⟩, rfl⟩ | exact rfl); simp only [List.nil_append, List.cons_append])
          refine tame_end_put rfl rfl (fun ρ W hC hr hF => ?_)
          simp [go_sem] at hF
          simp only [putF, hF, List.set_cons_succ, List.set_cons_zero]
          clear hF hr
          have EV := Lib.hid (EZ.out.trans hC)
          clear hC m0 m1 m2 m3 q0 q1 q2 q3 q4 q5 q6
          go_wp2
          go_roundg (n2 - (kk + 1))
          case measure => omega
          case rel => exact ⟨kk + 1, by omega, by omega, by simp, EV.out⟩
        · have q6 : (SM == SL) = false := by rw [beq_eq_false_iff_ne]; exact hee
          clear hee
          refine wp_region_tame (fun W => Ext wz W) (fun W W' => Ext W W') (by kernel_rfl) 155 rfl (by decide +kernel) (Ext.refl _).drew ?_
          repeat (apply tame_q rfl; (intro ρ W hC hr hD; (obtain ⟨hrc, hrg, hrf, hrs⟩ := hr); (simp [go_sem] at hD); go_simp; first | exact ⟨⟨hC, Ext.refl _⟩, rfl⟩ | exact ⟨⟨hC, RS.refl _⟩, rfl⟩ | exact rfl); simp only [List.nil_append, List.cons_append])
          apply tame_q rfl
          · intro ρ W hC hr hD
            obtain ⟨hrc, hrg, hrf, hrs⟩ := hr
            simp [go_sem] at hD
            go_simp
            refine (HSB.out _ _ (OL.out.ext (EZ.out.trans hC))).mono ?_
            rintro e w' ⟨rfl, hE⟩
            exact ⟨_, rfl, ⟨hC.trans hE, hE⟩, rfl⟩
          simp only [List.nil_append, List.cons_append]
          repeat (apply tame_q rfl; (intro ρ W hC hr hD; (obtain ⟨hrc, hrg, hrf, hrs⟩ := hr); (simp [go_sem] at hD); go_simp; first | exact ⟨⟨hC, Ext.refl _⟩, rfl⟩ | exact ⟨⟨hC, RS.refl _⟩, rfl⟩ | exact rfl); simp only [List.nil_append, List.cons_append])
          refine tame_end_put rfl rfl (fun ρ W hC hr hF => ?_)
          simp [go_sem] at hF
          simp only [putF, hF, List.set_cons_succ, List.set_cons_zero]
          clear hF hr
          have EV := Lib.hid (EZ.out.trans hC)
          clear hC m0 m1 m2 m3 q0 q1 q2 q3 q6
          go_wp2
          go_roundg (n2 - (kk + 1))
          case measure => omega
          case rel => exact ⟨kk + 1, by omega, by omega, by simp, EV.out⟩
      · obtain ⟨wy, hwy⟩ : ∃ wy, wy = wr := ⟨_, rfl⟩
        subst hwy
        have EC := Lib.hid (E0.out.trans EX.out)
        have MY := Lib.hid (ML.out.ext EX.out); have OY := Lib.hid (OL.out.ext EX.out)
        go_wp2_with fail
        refine (HSB.out _ _ OY.out).mono ?_
        rintro e wz ⟨rfl, hE⟩
        replace EC := Lib.hid (EC.out.trans hE); replace MY := Lib.hid (MY.out.ext hE); replace OY := Lib.hid (OY.out.ext hE)
        clear hE
        by_cases hgt : SL < SM
        · go_wp2
          go_ret
          exact ⟨rfl, EC.out⟩
        · have HLX := Lib.hid (HLE2.out (by rw [HSL.out, HSM.out]; omega))
          go_wp2
          go_loopg [133] n2 (fun gg s wr => ∃ jj : Nat, jj ≤ n2 ∧ n2 - jj ≤ gg ∧ s = .int .i64 jj ∧ Aside (∀ j, j < jj → l[j]? = m[j]?) ∧ wr = wz)
          case atStart => exact ⟨0, Nat.zero_le _, by omega, rfl, fun j h => absurd h (Nat.not_lt_zero _), rfl⟩
          case round =>
            obtain ⟨jj, hle3, hm3, rfl, HEQ, rfl⟩ := hrel
            replace HEQ := Lib.hid HEQ.out
            by_cases hlt2 : jj < n2
            · have hltz2 : (jj : Int) < (n2 : Int) := by omega
              obtain ⟨am, fm, y, rfl, hy, -, hcy⟩ := MY.out.at_ hlt2
              obtain ⟨ao, fo, z, rfl, hz, -, hcz⟩ := OY.out.at_ hlt2
              have r0 : wr.cell? ⟨am, fm + jj, none⟩ = some (.int .i64 y) := by simpa using hcy wr (Ext.refl _) 0 _ rfl
              have r1 : wr.cell? ⟨ao, fo + jj, none⟩ = some (.int .i64 z) := by simpa using hcz wr (Ext.refl _) 0 _ rfl
              have HY := Lib.hid hy; have HZ := Lib.hid hz
              clear hy hz hcy hcz
              by_cases hyz : z = y
              · subst hyz
                go_wp2
                go_roundg (n2 - (jj + 1))
                case measure => omega
                case rel => exact ⟨jj + 1, by omega, by omega, by simp, fun j h => by
                  rcases Nat.lt_succ_iff_lt_or_eq.1 h with h | rfl
                  · exact HEQ.out j h
                  · rw [HY.out, HZ.out], rfl⟩
              · have hlz := lex_first HLX.out HY.out HZ.out HEQ.out (fun e => hyz e.symm)
                have hzb : (z == y) = false := by rw [beq_eq_false_iff_ne]; exact hyz
                go_wp2
                go_ret
                exact ⟨rfl, EC.out⟩
            · go_wp2
              go_ret
              exact ⟨rfl, EC.out⟩
end Go.Proofs.YtafdbgielmlihaaDoor
