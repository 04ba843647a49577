/- The reference's look: all plans from a bale on; the best is kept. -/
import Derived.Test.YtkpengeaolcjhaaDoorPkMlTellsCardP
import Derived.Test.YtkpengeaolcjhaaDoorPkMlTellsCardN
namespace Go.Proofs.YtkpengeaolcjhaaDoor
open Go.RowKit Go.Shelf Go.Lib
set_option maxRecDepth 100000
set_option linter.unusedSimpArgs false

abbrev LkT := List Int × (Int × Int) × Bool
def lookP (m : Mll) (pre : List Int) (rest : List Bool) (f : List Int) (s : LkT) : LkT := (plansF m.lots.toNat m.size rest f).foldl (fun s q => lookS m s (pre ++ q)) s
def lookL (m : Mll) (pre : List Int) (b : Bool) (r : List Bool) (f : List Int) (s : LkT) (k : Nat) : LkT := (List.range k).foldl (fun s lot => if okLot m.size b f lot then lookP m (pre ++ [(lot : Int)]) r (upF f lot) s else s) s
theorem lookL_succ (m : Mll) (pre : List Int) (b : Bool) (r : List Bool) (f : List Int) (s : LkT) (k : Nat) : lookL m pre b r f s (k + 1) = if okLot m.size b f k then lookP m (pre ++ [(k : Int)]) r (upF f k) (lookL m pre b r f s k) else lookL m pre b r f s k := by
  unfold lookL
  rw [List.range_succ, List.foldl_append]
  rfl
theorem foldl_flat {α β γ : Type} (g : γ → β → γ) (h : α → List β) : ∀ (l : List α) (s : γ), (l.flatMap h).foldl g s = l.foldl (fun s a => (h a).foldl g s) s
  | [], _ => rfl
  | a :: l, s => by rw [List.flatMap_cons, List.foldl_append, List.foldl_cons, foldl_flat g h l]
theorem lookP_cons (m : Mll) (pre : List Int) (b : Bool) (r : List Bool) (f : List Int) (s : LkT) : lookP m pre (b :: r) f s = lookL m pre b r f s (m.lots.toNat + 1) := by
  unfold lookP lookL
  rw [plansF, foldl_flat]
  congr 1
  funext s lot
  split
  · rw [List.foldl_map]
    unfold lookP
    simp only [List.append_assoc, List.cons_append, List.nil_append]
  · rfl
theorem lookP_nil (m : Mll) (pre : List Int) (f : List Int) (s : LkT) : lookP m pre [] f s = if f = fullF m.lots.toNat m.size then lookS m s pre else s := by
  unfold lookP plansF
  split
  · simp
  · rfl
/-- The counts of lots that there are not are nothing. -/
def Cnt (lt : Nat) (size f0 f1 f2 : Int) : Prop := (0 ≤ f0 ∧ f0 ≤ size ∧ 0 ≤ f1 ∧ f1 ≤ size ∧ 0 ≤ f2 ∧ f2 ≤ size) ∧ (lt ≤ 1 → f1 = 0) ∧ (lt ≤ 2 → f2 = 0)
theorem cnt_full {lt : Nat} {size f0 f1 f2 : Int} (h : Cnt lt size f0 f1 f2) (h1 : 1 ≤ lt) (h3 : lt ≤ 3) : ([f0, f1, f2] = fullF lt size) ↔ (f0 = size ∧ (2 ≤ lt → f1 = size) ∧ (3 ≤ lt → f2 = size)) := by
  unfold fullF
  have e : (List.range 3).map (fun i => if i < lt then size else 0) = [if 0 < lt then size else 0, if 1 < lt then size else 0, if 2 < lt then size else 0] := rfl
  rw [e]
  obtain ⟨-, h2, h4⟩ := h
  simp only [List.cons.injEq, and_true]
  constructor
  · rintro ⟨a, b, c⟩
    rw [if_pos (by omega)] at a
    refine ⟨a, fun h => ?_, fun h => ?_⟩
    · rw [if_pos (by omega)] at b; exact b
    · rw [if_pos (by omega)] at c; exact c
  · rintro ⟨a, b, c⟩
    refine ⟨by rw [if_pos (by omega)]; exact a, ?_, ?_⟩
    · split
      · exact b (by omega)
      · exact h2 (by omega)
    · split
      · exact c (by omega)
      · exact h4 (by omega)

/-- A list that lies outside of three blocks. -/
def SlO (g : Nat) (W : World) (v : Value) (p : List Int) : Prop := SlI W v p ∧ ∀ b o n c, v = .slice (some ⟨b, o, none⟩) n c → 0 < p.length → g + 3 ≤ b
theorem Sl.gap {α : Type} {enc : α → List Value} {sz lo hi : Nat} {A B : World} {a : Option Addr} {n c : Nat} {l : List α} (h : Sl enc sz A (.slice a n c) l) (k : Gap lo hi A B) (hx : 0 < l.length → ∀ b o, a = some ⟨b, o, none⟩ → b < lo ∨ hi ≤ b) : Sl enc sz B (.slice a n c) l := by
  obtain ⟨a', c', hv, hl, hc, hcell⟩ := h
  injection hv with e1 e2 e3
  subst e1 e2 e3
  refine ⟨_, _, rfl, hl, hc, fun h0 => ?_⟩
  obtain ⟨b, off, hA, hb, hcell⟩ := hcell h0
  exact ⟨b, off, hA, Nat.lt_of_lt_of_le hb k.size, fun i x hi j u hu => (World.cell?_of_block (a := ⟨b, _, none⟩) (k.block b hb (hx h0 _ _ hA))).trans (hcell i x hi j u hu)⟩
theorem SlO.gap {g : Nat} {W W' : World} {v : Value} {p : List Int} (h : SlO g W v p) (k : Gap g (g + 3) W W') : SlO g W' v p := by
  obtain ⟨A, n, c, rfl, -, -, -⟩ := h.1.form
  exact ⟨h.1.gap k fun h0 b o e => .inr (h.2 b o n c (by rw [e]) h0), h.2⟩
theorem SlO.ext {g : Nat} {W W' : World} {v : Value} {p : List Int} (h : SlO g W v p) (k : Ext W W') : SlO g W' v p := ⟨h.1.ext k, h.2⟩
theorem SlO.nil (g : Nat) (W : World) : SlO g W (.slice none 0 0) [] := ⟨Sl.nil W, fun b o n c e h => by simp at h⟩
theorem SlO.own {g base : Nat} {W : World} {v : Value} {p : List Int} (h : Own encI 3 1 W base v p) (hb : g + 3 ≤ base) : SlO g W v p := by
  refine ⟨h.sl (fun _ => rfl), fun b o n c e h0 => ?_⟩
  rcases own_formG h with ⟨-, h1⟩ | ⟨g', cap, cur, h1, h3, -⟩
  · rw [h1] at h0; simp at h0
  · rw [h1] at e; injection e with e; injection e with e; injection e with e; omega
/-- The three blocks in which the best is kept. -/
structure Lk (g : Nat) (s : LkT) (W : World) : Prop where
  best : ∃ v, Blk W g 27 #[v] ∧ SlO g W v s.1
  even : Blk W (g + 1) 95 #[.int .i64 s.2.1.1, .int .i64 s.2.1.2]
  found : Blk W (g + 1 + 1) 4 #[.bool s.2.2]
theorem Lk.ext {g : Nat} {s : LkT} {W W' : World} (h : Lk g s W) (k : Ext W W') : Lk g s W' := by
  obtain ⟨⟨v, h1, h2⟩, h3, h4⟩ := h
  exact ⟨⟨v, h1.ext k, h2.ext k⟩, h3.ext k, h4.ext k⟩
/-- A mill's lists that lie outside of three blocks. -/
def MlO (g : Nat) (W : World) (v : Value) (l : List Rc) : Prop := MlC W v l ∧ ∀ A n c, v = .slice A n c → (0 < l.length → ∀ b o, A = some ⟨b, o, none⟩ → b < g)  ∧ ∀ r ∈ l, (0 < r.c.b.draws.length → ∀ b o, r.da = some ⟨b, o, none⟩ → b < g) ∧ (0 < r.c.b.weighs.length → ∀ b o, r.wa = some ⟨b, o, none⟩ → b < g)
theorem MlO.gap {g hi : Nat} {W W' : World} {v : Value} {l : List Rc} (h : MlO g W v l) (k : Gap g hi W W') : MlO g W' v l := by
  obtain ⟨A, n, c, rfl, -, -, -⟩ := h.1.1.form
  obtain ⟨h1, h2⟩ := h.2 A n c rfl
  refine ⟨⟨h.1.1.gap k fun h0 b o e => .inl (h1 h0 b o e), fun r hr => ⟨(h.1.2 r hr).1.gap k fun h0 b o e => .inl ((h2 r hr).1 h0 b o e), (h.1.2 r hr).2.gap k fun h0 b o e => .inl ((h2 r hr).2 h0 b o e)⟩⟩, h.2⟩
theorem MlO.ext {g : Nat} {W W' : World} {v : Value} {l : List Rc} (h : MlO g W v l) (k : Ext W W') : MlO g W' v l := ⟨h.1.ext k, h.2⟩
/-- What lies in memory already lies outside of what comes. -/
theorem sl_old {α : Type} {enc : α → List Value} {sz : Nat} {w : World} {A : Option Addr} {n c : Nat} {l : List α} (h : Sl enc sz w (.slice A n c) l) : 0 < l.length → ∀ b o, A = some ⟨b, o, none⟩ → b < w.heap.size := by
  intro h0 b o e
  obtain ⟨a', c', hv, -, -, hx⟩ := h
  injection hv with e1 e2 e3
  subst e1 e2 e3
  obtain ⟨b', off, hA, hb, -⟩ := hx h0
  rw [e] at hA
  injection hA with hA
  injection hA with hA
  omega
theorem MlO.of {w : World} {v : Value} {l : List Rc} (h : MlC w v l) : MlO w.heap.size w v l := ⟨h, fun _ _ _ e => ⟨sl_old (e ▸ h.1), fun r hr => ⟨sl_old (h.2 r hr).1, sl_old (h.2 r hr).2⟩⟩⟩
theorem MlO.mono {g g' : Nat} {w : World} {v : Value} {l : List Rc} (h : MlO g w v l) (hg : g ≤ g') : MlO g' w v l := ⟨h.1, fun A n c e => ⟨fun h0 b o e2 => Nat.lt_of_lt_of_le ((h.2 A n c e).1 h0 b o e2) hg, fun r hr => ⟨fun h0 b o e2 => Nat.lt_of_lt_of_le (((h.2 A n c e).2 r hr).1 h0 b o e2) hg, fun h0 b o e2 => Nat.lt_of_lt_of_le (((h.2 A n c e).2 r hr).2 h0 b o e2) hg⟩⟩⟩

/-! The three stores, in whatever order. -/
structure LkC (g : Nat) (w8 W : World) : Prop where
  gap : Gap g (g + 3) w8 W
  a : ∃ x, Blk W g 27 #[x]
  b : ∃ x y, Blk W (g + 1) 95 #[x, y]
  c : ∃ x, Blk W (g + 1 + 1) 4 #[x]
structure LkR (g : Nat) (v x y z : Value) (W W' : World) : Prop where
  a : Blk W g 27 #[v] → Blk W' g 27 #[v]
  b : Blk W (g + 1) 95 #[x, y] → Blk W' (g + 1) 95 #[x, y]
  c : Blk W (g + 1 + 1) 4 #[z] → Blk W' (g + 1 + 1) 4 #[z]
theorem LkR.refl {g : Nat} {v x y z : Value} (W : World) : LkR g v x y z W W := ⟨id, id, id⟩
theorem LkC.start {g : Nat} {s : LkT} {W : World} (h : Lk g s W) : LkC g W W := by
  obtain ⟨⟨v, h1, -⟩, h2, h3⟩ := h
  exact ⟨Gap.refl _ _ _, ⟨_, h1⟩, ⟨_, _, h2⟩, ⟨_, h3⟩⟩
section
variable {g : Nat} {w8 W : World} (h : LkC g w8 W) (v x y z : Value)
include h
theorem LkC.s0 : CR (LkC g w8) (LkR g v x y z) W (W.setCell ⟨g, 0, none⟩ v) ∧ Blk (W.setCell ⟨g, 0, none⟩ v) g 27 #[v] := by
  obtain ⟨h1, ⟨a, h2⟩, ⟨b, c, h3⟩, ⟨d, h4⟩⟩ := h
  have hB : Blk (W.setCell ⟨g, 0, none⟩ v) g 27 #[v] := by have := h2.set_ 0 v; simpa using this
  exact ⟨⟨⟨h1.setCell (by dsimp only; omega) (by dsimp only; omega) _, ⟨_, hB⟩, ⟨_, _, h3.far (by dsimp only; omega) _⟩, ⟨_, h4.far (by dsimp only; omega) _⟩⟩, ⟨fun _ => hB, fun k => k.far (by dsimp only; omega) _, fun k => k.far (by dsimp only; omega) _⟩⟩, hB⟩
theorem LkC.s1 : CR (LkC g w8) (LkR g v x y z) W ((W.setCell ⟨g + 1, 0, none⟩ x).setCell ⟨g + 1, 1, none⟩ y) ∧ Blk ((W.setCell ⟨g + 1, 0, none⟩ x).setCell ⟨g + 1, 1, none⟩ y) (g + 1) 95 #[x, y] := by
  obtain ⟨h1, ⟨a, h2⟩, ⟨b, c, h3⟩, ⟨d, h4⟩⟩ := h
  have hB := h3.set2 x y
  exact ⟨⟨⟨(h1.setCell (by dsimp only; omega) (by dsimp only; omega) _).setCell (by dsimp only; omega) (by dsimp only; omega) _, ⟨_, (h2.far (by dsimp only; omega) _).far (by dsimp only; omega) _⟩, ⟨_, _, hB⟩, ⟨_, (h4.far (by dsimp only; omega) _).far (by dsimp only; omega) _⟩⟩, ⟨fun k => (k.far (by dsimp only; omega) _).far (by dsimp only; omega) _, fun _ => hB, fun k => (k.far (by dsimp only; omega) _).far (by dsimp only; omega) _⟩⟩, hB⟩
theorem LkC.s2 : CR (LkC g w8) (LkR g v x y z) W (W.setCell ⟨g + 1 + 1, 0, none⟩ z) ∧ Blk (W.setCell ⟨g + 1 + 1, 0, none⟩ z) (g + 1 + 1) 4 #[z] := by
  obtain ⟨h1, ⟨a, h2⟩, ⟨b, c, h3⟩, ⟨d, h4⟩⟩ := h
  have hB : Blk (W.setCell ⟨g + 1 + 1, 0, none⟩ z) (g + 1 + 1) 4 #[z] := by have := h4.set_ 0 z; simpa using this
  exact ⟨⟨⟨h1.setCell (by dsimp only; omega) (by dsimp only; omega) _, ⟨_, h2.far (by dsimp only; omega) _⟩, ⟨_, _, h3.far (by dsimp only; omega) _⟩, ⟨_, hB⟩⟩, ⟨fun k => k.far (by dsimp only; omega) _, fun k => k.far (by dsimp only; omega) _, fun _ => hB⟩⟩, hB⟩
end
end Go.Proofs.YtkpengeaolcjhaaDoor
/- The walk of the reference's look. -/
namespace Go.Proofs.YtkpengeaolcjhaaDoor
open Go.RowKit Go.Shelf Go.Lib
set_option maxRecDepth 100000
set_option linter.unusedSimpArgs false

/-- What a call of look does. -/
def LookC (lt : Nat) (size : Int) (l : List Rc) (sv fv : Value) (g : Nat) (rest : List Bool) : Prop :=
  ∀ (pre : List Int) (c0 f0 f1 f2 : Int) (pv : Value) (s : LkT) (W : World), pre.length + rest.length = l.length → (fitL (mOf lt size l)).drop pre.length = rest → 0 ≤ c0 → c0 ≤ pre.length → Cnt lt size f0 f1 f2 →
    SlO g W pv pre → MlO g W sv l → SlBo W fv (fitL (mOf lt size l)) → (∀ b o n c, fv = .slice (some ⟨b, o, none⟩) n c → 0 < l.length → g + 3 ≤ b) → Lk g s W →
    Calls Tryd.prog 103 #[valM (lt : Int) size sv, fv, pv, .agg #[.int .i64 c0, .int .i64 f0, .int .i64 f1, .int .i64 f2], .pointer (some ⟨g, 0, none⟩), .pointer (some ⟨g + 1, 0, none⟩), .pointer (some ⟨g + 1 + 1, 0, none⟩)] W
      fun e W' => (∃ v, e = .returned v) ∧ Lk g (lookP (mOf lt size l) pre rest [f0, f1, f2] s) W' ∧ Gap g (g + 3) W W'
set_option maxHeartbeats 4000000 in
theorem look_nil {lt : Nat} {size : Int} {l : List Rc} {sv fv : Value} {g : Nat} (hm : Mok (mOf lt size l)) : LookC lt size l sv fv g [] := by
  intro pre c0 f0 f1 f2 pv s w hlen hfit hc0 hc1 hcnt hp hml hf hfo hlk
  have hl1 : 1 ≤ lt := by have h : 1 ≤ (lt : Int) := hm.l1; omega
  have hl3 : lt ≤ 3 := by have h : (lt : Int) ≤ 3 := hm.l3; omega
  have HF := Lib.hid (cnt_full hcnt hl1 hl3)
  have HM := Lib.hid hm; have HP := Lib.hid hp; have HML := Lib.hid hml; have HLK := Lib.hid hlk; have HCN := Lib.hid hcnt
  obtain ⟨A, n, c, rfl, hn, hlc, hcm⟩ := hml.1.1.form
  obtain ⟨Ap, np, cp, rfl, hnp, hlp, hcp⟩ := hp.1.form
  obtain rfl : np = n := by have := hn.out; have := hnp.out; simp at hlen; omega
  have HLP := Lib.hid (show pre.length = l.length by simpa using hlen)
  obtain ⟨Af, nf, cf, rfl, -, -, -⟩ := hf.form
  have HLN := Lib.hid (lookP_nil (mOf lt size l) pre [f0, f1, f2] s)
  have hlt0 : (mOf (lt : Int) size l).lots.toNat = lt := by show ((lt : Int)).toNat = lt; omega
  rw [hlt0] at HLN
  have hsz : (mOf (lt : Int) size l).size = size := rfl
  rw [hsz] at HLN
  have HG := Lib.hid hlk.found.lt
  clear hm hp hml hlk hf hfo hfit hlen hc0 hc1 hn hnp hcnt hlt0 hsz
  go_enter Tryd.func103, Tryd.ntmps103
  go_wp2
  generalize hW5 : ((w.alloc (.cells #[.int .i64 (lt : Int), .int .i64 size, .slice A np c] 24)).alloc (.cells #[.int .i64 c0, .int .i64 f0, .int .i64 f1, .int .i64 f2] 167)) = w5
  have B0 := Lib.hid (show Blk w5 w.heap.size 24 #[.int .i64 (lt : Int), .int .i64 size, .slice A np c] from hW5 ▸ (Blk.new _ _ _).alloc _)
  have B1 := Lib.hid (show Blk w5 (w.heap.size + 1) 167 #[.int .i64 c0, .int .i64 f0, .int .i64 f1, .int .i64 f2] from hW5 ▸ (Blk.at_ (by simp)))
  have E5 := Lib.hid (show Ext w w5 from hW5 ▸ (Ext.al _ _).alloc _)
  clear hW5
  go_loopg [14] lt (fun gg s14 wr => ∃ j : Nat, s14 = .int .i64 ((j : Int) + 1) ∧ j ≤ lt ∧ lt - j ≤ gg ∧ Aside ((1 ≤ j → f0 = size) ∧ (2 ≤ j → f1 = size) ∧ (3 ≤ j → f2 = size)) ∧ Aside (Ext w5 wr))
  case atStart => exact ⟨0, by simp, by omega, by omega, ⟨by omega, by omega, by omega⟩, Ext.refl _⟩
  case round =>
    obtain ⟨j, rfl, hj, hgg, HJ, HE⟩ := hrel
    have hz5 := B1.out.lt
    by_cases hjl : j < lt
    · have hjz : (j : Int) + 1 ≤ (lt : Int) := by omega
      have m0 := fun W (h : Ext wr W) => ((B0.out.ext HE.out).ext h).c3
      have m1 := fun W (h : Ext wr W) => ((B1.out.ext HE.out).ext h).c4
      have k0 := (m0 _ (Ext.refl _)).1
      have k1 := (m0 _ (Ext.refl _)).2.1
      have p0 := fun W (h : Ext wr W) => (m0 W h).2.1
      have p1 := fun W (h : Ext wr W) => (m1 W h).1
      have p2 := fun W (h : Ext wr W) => (m1 W h).2.1
      have p3 := fun W (h : Ext wr W) => (m1 W h).2.2.1
      have p4 := fun W (h : Ext wr W) => (m1 W h).2.2.2.1
      have hj3 : j = 0 ∨ j = 1 ∨ j = 2 := by omega
      clear m0 m1 k1
      rcases hj3 with rfl | rfl | rfl
      · skip
        go_wp2_with fail
        refine wp_region_tame (fun W => Ext wr W) (fun W W' => Ext W W') (by kernel_rfl) 103 rfl (by decide +kernel) (Ext.refl _).drew ?_
        repeat (apply tame_q rfl; (intro ρ W hC hr hD; (obtain ⟨hrc, hrg, hrf, hrs⟩ := hr); (simp [go_sem] at hD); go_simp; first | exact ⟨⟨hC, Ext.refl _⟩, rfl⟩ | exact ⟨⟨hC, RS.refl _⟩, rfl⟩ | exact rfl); simp only [List.nil_append, List.cons_append])
        refine tame_end 103 rfl rfl (fun ρ W hC hr hF => ?_)
        obtain ⟨hrc, hrg, hrf, hrs⟩ := hr
        simp [go_sem] at hF
        apply frame_to
        · go_simp
          exact rfl
        clear hF hrs hrc hrg hrf
        have HEW := Lib.hid (HE.out.trans hC)
        clear hC p0 p1 p2 p3 p4
        by_cases hfs : f0 = size
        · have HFS := Lib.hid hfs
          have hfb : (f0 == size) = true := by simpa using hfs
          clear hfs
          go_wp2
          go_roundg (lt - 1)
          case measure => omega
          case rel => exact ⟨1, by simp, by omega, by omega, ⟨fun _ => HFS.out, by omega, by omega⟩, HEW.out⟩
        · have hfb : (f0 == size) = false := by simpa using hfs
          have HNO := Lib.hid (show lookP (mOf lt size l) pre [] [f0, f1, f2] s = s by
            rw [HLN.out, if_neg]
            intro h
            have := HF.out.1 h
            exact hfs (by first | exact this.1 | exact this.2.1 (by omega) | exact this.2.2 (by omega)))
          clear hfs
          go_wp2
          refine bodyPost_ret (results_none rfl _ _ _) rfl ?_
          exact ⟨⟨_, rfl⟩, by rw [HNO.out]; exact HLK.out.ext (E5.out.trans HEW.out), Gap.of_ext (E5.out.trans HEW.out)⟩
      · skip
        go_wp2_with fail
        refine wp_region_tame (fun W => Ext wr W) (fun W W' => Ext W W') (by kernel_rfl) 103 rfl (by decide +kernel) (Ext.refl _).drew ?_
        repeat (apply tame_q rfl; (intro ρ W hC hr hD; (obtain ⟨hrc, hrg, hrf, hrs⟩ := hr); (simp [go_sem] at hD); go_simp; first | exact ⟨⟨hC, Ext.refl _⟩, rfl⟩ | exact ⟨⟨hC, RS.refl _⟩, rfl⟩ | exact rfl); simp only [List.nil_append, List.cons_append])
        refine tame_end 103 rfl rfl (fun ρ W hC hr hF => ?_)
        obtain ⟨hrc, hrg, hrf, hrs⟩ := hr
        simp [go_sem] at hF
        apply frame_to
        · go_simp
          exact rfl
        clear hF hrs hrc hrg hrf
        have HEW := Lib.hid (HE.out.trans hC)
        clear hC p0 p1 p2 p3 p4
        by_cases hfs : f1 = size
        · have HFS := Lib.hid hfs
          have hfb : (f1 == size) = true := by simpa using hfs
          clear hfs
          go_wp2
          go_roundg (lt - 2)
          case measure => omega
          case rel => exact ⟨2, by simp, by omega, by omega, ⟨fun _ => HJ.out.1 (by omega), fun _ => HFS.out, by omega⟩, HEW.out⟩
        · have hfb : (f1 == size) = false := by simpa using hfs
          have HNO := Lib.hid (show lookP (mOf lt size l) pre [] [f0, f1, f2] s = s by
            rw [HLN.out, if_neg]
            intro h
            have := HF.out.1 h
            exact hfs (by first | exact this.1 | exact this.2.1 (by omega) | exact this.2.2 (by omega)))
          clear hfs
          go_wp2
          refine bodyPost_ret (results_none rfl _ _ _) rfl ?_
          exact ⟨⟨_, rfl⟩, by rw [HNO.out]; exact HLK.out.ext (E5.out.trans HEW.out), Gap.of_ext (E5.out.trans HEW.out)⟩
      · skip
        go_wp2_with fail
        refine wp_region_tame (fun W => Ext wr W) (fun W W' => Ext W W') (by kernel_rfl) 103 rfl (by decide +kernel) (Ext.refl _).drew ?_
        repeat (apply tame_q rfl; (intro ρ W hC hr hD; (obtain ⟨hrc, hrg, hrf, hrs⟩ := hr); (simp [go_sem] at hD); go_simp; first | exact ⟨⟨hC, Ext.refl _⟩, rfl⟩ | exact ⟨⟨hC, RS.refl _⟩, rfl⟩ | exact rfl); simp only [List.nil_append, List.cons_append])
        refine tame_end 103 rfl rfl (fun ρ W hC hr hF => ?_)
        obtain ⟨hrc, hrg, hrf, hrs⟩ := hr
        simp [go_sem] at hF
        apply frame_to
        · go_simp
          exact rfl
        clear hF hrs hrc hrg hrf
        have HEW := Lib.hid (HE.out.trans hC)
        clear hC p0 p1 p2 p3 p4
        by_cases hfs : f2 = size
        · have HFS := Lib.hid hfs
          have hfb : (f2 == size) = true := by simpa using hfs
          clear hfs
          go_wp2
          go_roundg (lt - 3)
          case measure => omega
          case rel => exact ⟨3, by simp, by omega, by omega, ⟨fun _ => HJ.out.1 (by omega), fun _ => HJ.out.2.1 (by omega), fun _ => HFS.out⟩, HEW.out⟩
        · have hfb : (f2 == size) = false := by simpa using hfs
          have HNO := Lib.hid (show lookP (mOf lt size l) pre [] [f0, f1, f2] s = s by
            rw [HLN.out, if_neg]
            intro h
            have := HF.out.1 h
            exact hfs (by first | exact this.1 | exact this.2.1 (by omega) | exact this.2.2 (by omega)))
          clear hfs
          go_wp2
          refine bodyPost_ret (results_none rfl _ _ _) rfl ?_
          exact ⟨⟨_, rfl⟩, by rw [HNO.out]; exact HLK.out.ext (E5.out.trans HEW.out), Gap.of_ext (E5.out.trans HEW.out)⟩
    · have hje : j = lt := by omega
      subst hje
      have HYES := Lib.hid (show lookP (mOf j size l) pre [] [f0, f1, f2] s = lookS (mOf j size l) s pre by
        rw [HLN.out, if_pos]
        exact HF.out.2 ⟨HJ.out.1 (by omega), fun h => HJ.out.2.1 (by omega), fun h => HJ.out.2.2 (by omega)⟩)
      obtain ⟨k0, k1, k2, kf, kl⟩ := (B0.out.ext HE.out).c3
      have EW := Lib.hid (E5.out.trans HE.out)
      go_wp2_with fail
      refine (refOf_any j size l pre _ _ _ HM.out (HML.out.1.1.ext EW.out) (HP.out.1.ext EW.out) HLP.out).mono ?_
      rintro e w6 ⟨rfl, hE⟩
      have HE6 := Lib.hid (EW.out.trans hE)
      obtain ⟨u, hu⟩ : ∃ u, evenR (mOf j size l) pre = u := ⟨_, rfl⟩
      rw [hu]
      have HU := Lib.hid hu
      clear hE k0 k1 k2 kf kl hu
      cases hfd : s.2.2
      · have HFD := Lib.hid hfd
        have HYS := Lib.hid (show lookP (mOf j size l) pre [] [f0, f1, f2] s = (pre, u, true) by rw [HYES.out]; unfold lookS; rw [HFD.out, HU.out]; rfl)
        clear hfd
        go_wp2_with fail
        obtain ⟨w7, hw7⟩ : ∃ w7, w7 = w6.alloc (.cells #[.int .i64 u.1, .int .i64 u.2] 95) := ⟨_, rfl⟩
        rw [← hw7]
        have E7 := Lib.hid (show Ext w6 w7 from hw7 ▸ Ext.al _ _)
        have HB7 := Lib.hid (show Blk w7 w6.heap.size 95 #[.int .i64 u.1, .int .i64 u.2] from hw7 ▸ Blk.new _ _ _)
        have HLK7 := Lib.hid ((HLK.out.ext HE6.out).ext E7.out)
        have HE7 := Lib.hid (HE6.out.trans E7.out)
        have HO7 := Lib.hid (show g + 3 ≤ w6.heap.size by have := HLK.out.found.lt; have := HE6.out.size; omega)
        clear hw7
        have n0 := fun W (h : Ext w7 W) => (show W.cell? ⟨g + 1 + 1, 0, none⟩ = some (.bool false) by rw [← HFD.out]; exact (HLK7.out.ext h).found.c1.1)
        refine wp_region_tame (fun W => Ext w7 W) (fun W W' => Ext W W') (by kernel_rfl) 103 rfl (by decide +kernel) (Ext.refl _).drew ?_
        repeat (apply tame_q rfl; (intro ρ W hC hr hD; (obtain ⟨hrc, hrg, hrf, hrs⟩ := hr); (simp [go_sem] at hD); go_simp; first | exact ⟨⟨hC, Ext.refl _⟩, rfl⟩ | exact ⟨⟨hC, RS.refl _⟩, rfl⟩ | exact rfl); simp only [List.nil_append, List.cons_append])
        refine tame_end 103 rfl rfl (fun ρ W hC hr hF => ?_)
        obtain ⟨hrc, hrg, hrf, hrs⟩ := hr
        simp [go_sem] at hF
        apply frame_to
        · go_simp
          exact rfl
        clear hF hrs hrc hrg hrf
        clear n0
        obtain ⟨w8, hw8⟩ : ∃ w8, w8 = W := ⟨_, rfl⟩
        subst hw8
        have HE8 := Lib.hid (HE7.out.trans hC)
        have HLK8 := Lib.hid (HLK7.out.ext hC)
        have HB8 := Lib.hid (HB7.out.ext hC)
        have HP8 := Lib.hid (HP.out.ext HE8.out)
        clear hC
        go_wp2_with fail
        have n3 := fun W (h : LkC g w8 W) => (h.gap.blk HB8.out (.inr HO7.out)).c2.1
        have n4 := fun W (h : LkC g w8 W) => (h.gap.blk HB8.out (.inr HO7.out)).c2.2.1
        refine wp_region_tame (fun W => LkC g w8 W) (fun W W' => LkR g (.slice Ap np cp) (.int .i64 u.1) (.int .i64 u.2) (.bool true) W W') (by kernel_rfl) 103 rfl (by decide +kernel) (LkC.start (HLK8.out.ext (Ext.refl _).drew) |> fun h => ⟨Gap.of_ext (Ext.refl _).drew, h.a, h.b, h.c⟩) ?_
        repeat (apply tame_q rfl; (intro ρ W hC hr hD; (obtain ⟨hrc, hrg, hrf, hrs⟩ := hr); (simp [go_sem] at hD); go_simp; first | exact ⟨⟨hC, LkR.refl _⟩, rfl⟩ | exact rfl); simp only [List.nil_append, List.cons_append])
        apply tame_n (fun _ W => Blk W g 27 #[.slice Ap np cp]) (fun _ _ _ _ hR h => hR.a h)
        · intro ρ W hC hr hD
          obtain ⟨hrc, hrg, hrf, hrs⟩ := hr
          simp [go_sem] at hD
          have hK := hC.s0 (.slice Ap np cp) (.int .i64 u.1) (.int .i64 u.2) (.bool true)
          have HK := Lib.hid hK
          obtain ⟨xa, ha⟩ := hC.a
          obtain ⟨xb, yb, hb⟩ := hC.b
          obtain ⟨xc, hc⟩ := hC.c
          have a1 := ha.c1
          have b1 := hb.c2
          have c1 := hc.c1
          clear hK ha hb hc
          go_simp
          exact HK.out
        simp only [List.nil_append, List.cons_append]
        repeat (apply tame_q rfl; (intro ρ W hC hr hD; (obtain ⟨hrc, hrg, hrf, hrs⟩ := hr); (simp [go_sem] at hD); go_simp; first | exact ⟨⟨hC, LkR.refl _⟩, rfl⟩ | exact rfl); simp only [List.nil_append, List.cons_append])
        apply tame_n (fun _ W => Blk W (g + 1) 95 #[.int .i64 u.1, .int .i64 u.2]) (fun _ _ _ _ hR h => hR.b h)
        · intro ρ W hC hr hD
          obtain ⟨hrc, hrg, hrf, hrs⟩ := hr
          simp [go_sem] at hD
          have hK := hC.s1 (.slice Ap np cp) (.int .i64 u.1) (.int .i64 u.2) (.bool true)
          have HK := Lib.hid hK
          obtain ⟨xa, ha⟩ := hC.a
          obtain ⟨xb, yb, hb⟩ := hC.b
          obtain ⟨xc, hc⟩ := hC.c
          have a1 := ha.c1
          have b1 := hb.c2
          have c1 := hc.c1
          clear hK ha hb hc
          go_simp
          exact HK.out
        simp only [List.nil_append, List.cons_append]
        repeat (apply tame_q rfl; (intro ρ W hC hr hD; (obtain ⟨hrc, hrg, hrf, hrs⟩ := hr); (simp [go_sem] at hD); go_simp; first | exact ⟨⟨hC, LkR.refl _⟩, rfl⟩ | exact rfl); simp only [List.nil_append, List.cons_append])
        apply tame_n (fun _ W => Blk W (g + 1 + 1) 4 #[.bool true]) (fun _ _ _ _ hR h => hR.c h)
        · intro ρ W hC hr hD
          obtain ⟨hrc, hrg, hrf, hrs⟩ := hr
          simp [go_sem] at hD
          have hK := hC.s2 (.slice Ap np cp) (.int .i64 u.1) (.int .i64 u.2) (.bool true)
          have HK := Lib.hid hK
          obtain ⟨xa, ha⟩ := hC.a
          obtain ⟨xb, yb, hb⟩ := hC.b
          obtain ⟨xc, hc⟩ := hC.c
          have a1 := ha.c1
          have b1 := hb.c2
          have c1 := hc.c1
          clear hK ha hb hc
          go_simp
          exact HK.out
        simp only [List.nil_append, List.cons_append]
        refine tame_end 103 rfl rfl (fun ρ W hC hr hF => ?_)
        obtain ⟨hrc, hrg, hrf, hrs⟩ := hr
        simp [go_sem] at hF
        obtain ⟨f51, f52, f53, f54, f55, f56, S0, f57, S1, f58, S2⟩ := hF
        have HS0 := Lib.hid S0; have HS1 := Lib.hid S1; have HS2 := Lib.hid S2
        apply frame_to
        · go_simp
          exact rfl
        have HGW := Lib.hid ((Gap.of_ext (lo := g) (hi := g + 3) HE8.out).trans hC.gap)
        have HPW := Lib.hid (HP8.out.gap hC.gap)
        clear S0 S1 S2 f51 f52 f53 f54 f55 f56 f57 f58 hC hrs hrc hrg hrf n3 n4
        go_wp2
        refine bodyPost_ret (results_none rfl _ _ _) rfl ?_
        exact ⟨⟨_, rfl⟩, by rw [HYS.out]; exact ⟨⟨_, HS0.out, HPW.out⟩, HS1.out, HS2.out⟩, HGW.out⟩
      · have HFD := Lib.hid hfd
        clear hfd
        have HLS := Lib.hid (show lookP (mOf j size l) pre [] [f0, f1, f2] s = if lessU u s.2.1 then (pre, u, true) else s by rw [HYES.out]; unfold lookS; rw [HFD.out, HU.out]; rfl)
        go_wp2_with fail
        obtain ⟨w7, hw7⟩ : ∃ w7, w7 = w6.alloc (.cells #[.int .i64 u.1, .int .i64 u.2] 95) := ⟨_, rfl⟩
        rw [← hw7]
        have E7 := Lib.hid (show Ext w6 w7 from hw7 ▸ Ext.al _ _)
        have HB7 := Lib.hid (show Blk w7 w6.heap.size 95 #[.int .i64 u.1, .int .i64 u.2] from hw7 ▸ Blk.new _ _ _)
        have HLK7 := Lib.hid ((HLK.out.ext HE6.out).ext E7.out)
        have HE7 := Lib.hid (HE6.out.trans E7.out)
        have HO7 := Lib.hid (show g + 3 ≤ w6.heap.size by have := HLK.out.found.lt; have := HE6.out.size; omega)
        clear hw7
        have n0 := fun W (h : Ext w7 W) => (show W.cell? ⟨g + 1 + 1, 0, none⟩ = some (.bool true) by rw [← HFD.out]; exact (HLK7.out.ext h).found.c1.1)
        have n1 := fun W (h : Ext w7 W) => (HLK7.out.ext h).even.c2.1
        have n2 := fun W (h : Ext w7 W) => (HLK7.out.ext h).even.c2.2.1
        have n3 := fun W (h : Ext w7 W) => (HB7.out.ext h).c2.1
        have n4 := fun W (h : Ext w7 W) => (HB7.out.ext h).c2.2.1
        refine wp_region_tame (fun W => Ext w7 W) (fun W W' => Ext W W') (by kernel_rfl) 103 rfl (by decide +kernel) (Ext.refl _).drew ?_
        repeat (apply tame_q rfl; (intro ρ W hC hr hD; (obtain ⟨hrc, hrg, hrf, hrs⟩ := hr); (simp [go_sem] at hD); go_simp; first | exact ⟨⟨hC, Ext.refl _⟩, rfl⟩ | exact ⟨⟨hC, RS.refl _⟩, rfl⟩ | exact rfl); simp only [List.nil_append, List.cons_append])
        apply tame_q rfl
        · intro ρ W hC hr hD
          obtain ⟨hrc, hrg, hrf, hrs⟩ := hr
          simp [go_sem] at hD
          go_simp
          refine (refLess_any u s.2.1 W).mono ?_
          rintro e w' ⟨rfl, hE⟩
          exact ⟨_, rfl, ⟨hC.trans hE, hE⟩, rfl⟩
        simp only [List.nil_append, List.cons_append]
        repeat (apply tame_q rfl; (intro ρ W hC hr hD; (obtain ⟨hrc, hrg, hrf, hrs⟩ := hr); (simp [go_sem] at hD); go_simp; first | exact ⟨⟨hC, Ext.refl _⟩, rfl⟩ | exact ⟨⟨hC, RS.refl _⟩, rfl⟩ | exact rfl); simp only [List.nil_append, List.cons_append])
        refine tame_end 103 rfl rfl (fun ρ W hC hr hF => ?_)
        obtain ⟨hrc, hrg, hrf, hrs⟩ := hr
        simp [go_sem] at hF
        apply frame_to
        · go_simp
          exact rfl
        clear hF hrs hrc hrg hrf
        clear n0 n1 n2 n3 n4
        cases hls : lessU u s.2.1
        · have HNO := Lib.hid (show lookP (mOf j size l) pre [] [f0, f1, f2] s = s by rw [HLS.out, hls]; rfl)
          clear hls
          have HEF := Lib.hid (HE7.out.trans hC)
          have HLF := Lib.hid (HLK7.out.ext hC)
          clear hC
          go_wp2
          refine bodyPost_ret (results_none rfl _ _ _) rfl ?_
          exact ⟨⟨_, rfl⟩, by rw [HNO.out]; exact HLF.out, Gap.of_ext HEF.out⟩
        · have HYS := Lib.hid (show lookP (mOf j size l) pre [] [f0, f1, f2] s = (pre, u, true) by rw [HLS.out, hls]; rfl)
          clear hls
          obtain ⟨w8, hw8⟩ : ∃ w8, w8 = W := ⟨_, rfl⟩
          subst hw8
          have HE8 := Lib.hid (HE7.out.trans hC)
          have HLK8 := Lib.hid (HLK7.out.ext hC)
          have HB8 := Lib.hid (HB7.out.ext hC)
          have HP8 := Lib.hid (HP.out.ext HE8.out)
          clear hC
          go_wp2_with fail
          have n3 := fun W (h : LkC g w8 W) => (h.gap.blk HB8.out (.inr HO7.out)).c2.1
          have n4 := fun W (h : LkC g w8 W) => (h.gap.blk HB8.out (.inr HO7.out)).c2.2.1
          refine wp_region_tame (fun W => LkC g w8 W) (fun W W' => LkR g (.slice Ap np cp) (.int .i64 u.1) (.int .i64 u.2) (.bool true) W W') (by kernel_rfl) 103 rfl (by decide +kernel) (LkC.start (HLK8.out.ext (Ext.refl _).drew) |> fun h => ⟨Gap.of_ext (Ext.refl _).drew, h.a, h.b, h.c⟩) ?_
          repeat (apply tame_q rfl; (intro ρ W hC hr hD; (obtain ⟨hrc, hrg, hrf, hrs⟩ := hr); (simp [go_sem] at hD); go_simp; first | exact ⟨⟨hC, LkR.refl _⟩, rfl⟩ | exact rfl); simp only [List.nil_append, List.cons_append])
          apply tame_n (fun _ W => Blk W g 27 #[.slice Ap np cp]) (fun _ _ _ _ hR h => hR.a h)
          · intro ρ W hC hr hD
            obtain ⟨hrc, hrg, hrf, hrs⟩ := hr
            simp [go_sem] at hD
            have hK := hC.s0 (.slice Ap np cp) (.int .i64 u.1) (.int .i64 u.2) (.bool true)
            have HK := Lib.hid hK
            obtain ⟨xa, ha⟩ := hC.a
            obtain ⟨xb, yb, hb⟩ := hC.b
            obtain ⟨xc, hc⟩ := hC.c
            have a1 := ha.c1
            have b1 := hb.c2
            have c1 := hc.c1
            clear hK ha hb hc
            go_simp
            exact HK.out
          simp only [List.nil_append, List.cons_append]
          repeat (apply tame_q rfl; (intro ρ W hC hr hD; (obtain ⟨hrc, hrg, hrf, hrs⟩ := hr); (simp [go_sem] at hD); go_simp; first | exact ⟨⟨hC, LkR.refl _⟩, rfl⟩ | exact rfl); simp only [List.nil_append, List.cons_append])
          apply tame_n (fun _ W => Blk W (g + 1) 95 #[.int .i64 u.1, .int .i64 u.2]) (fun _ _ _ _ hR h => hR.b h)
          · intro ρ W hC hr hD
            obtain ⟨hrc, hrg, hrf, hrs⟩ := hr
            simp [go_sem] at hD
            have hK := hC.s1 (.slice Ap np cp) (.int .i64 u.1) (.int .i64 u.2) (.bool true)
            have HK := Lib.hid hK
            obtain ⟨xa, ha⟩ := hC.a
            obtain ⟨xb, yb, hb⟩ := hC.b
            obtain ⟨xc, hc⟩ := hC.c
            have a1 := ha.c1
            have b1 := hb.c2
            have c1 := hc.c1
            clear hK ha hb hc
            go_simp
            exact HK.out
          simp only [List.nil_append, List.cons_append]
          repeat (apply tame_q rfl; (intro ρ W hC hr hD; (obtain ⟨hrc, hrg, hrf, hrs⟩ := hr); (simp [go_sem] at hD); go_simp; first | exact ⟨⟨hC, LkR.refl _⟩, rfl⟩ | exact rfl); simp only [List.nil_append, List.cons_append])
          apply tame_n (fun _ W => Blk W (g + 1 + 1) 4 #[.bool true]) (fun _ _ _ _ hR h => hR.c h)
          · intro ρ W hC hr hD
            obtain ⟨hrc, hrg, hrf, hrs⟩ := hr
            simp [go_sem] at hD
            have hK := hC.s2 (.slice Ap np cp) (.int .i64 u.1) (.int .i64 u.2) (.bool true)
            have HK := Lib.hid hK
            obtain ⟨xa, ha⟩ := hC.a
            obtain ⟨xb, yb, hb⟩ := hC.b
            obtain ⟨xc, hc⟩ := hC.c
            have a1 := ha.c1
            have b1 := hb.c2
            have c1 := hc.c1
            clear hK ha hb hc
            go_simp
            exact HK.out
          simp only [List.nil_append, List.cons_append]
          refine tame_end 103 rfl rfl (fun ρ W hC hr hF => ?_)
          obtain ⟨hrc, hrg, hrf, hrs⟩ := hr
          simp [go_sem] at hF
          obtain ⟨f51, f52, f53, f54, f55, f56, S0, f57, S1, f58, S2⟩ := hF
          have HS0 := Lib.hid S0; have HS1 := Lib.hid S1; have HS2 := Lib.hid S2
          apply frame_to
          · go_simp
            exact rfl
          have HGW := Lib.hid ((Gap.of_ext (lo := g) (hi := g + 3) HE8.out).trans hC.gap)
          have HPW := Lib.hid (HP8.out.gap hC.gap)
          clear S0 S1 S2 f51 f52 f53 f54 f55 f56 f57 f58 hC hrs hrc hrg hrf n3 n4
          go_wp2
          refine bodyPost_ret (results_none rfl _ _ _) rfl ?_
          exact ⟨⟨_, rfl⟩, by rw [HYS.out]; exact ⟨⟨_, HS0.out, HPW.out⟩, HS1.out, HS2.out⟩, HGW.out⟩
end Go.Proofs.YtkpengeaolcjhaaDoor
/- The walk of the reference's look, where bales are left: the recursion. -/
namespace Go.Proofs.YtkpengeaolcjhaaDoor
open Go.RowKit Go.Shelf Go.Lib
set_option maxRecDepth 100000
set_option linter.unusedSimpArgs false

theorem okLot_zero (size : Int) (b : Bool) (f : List Int) : okLot size b f 0 = true := rfl
theorem okLot_no (size : Int) (f : List Int) (k : Nat) : okLot size false f (k + 1) = false := by unfold okLot; simp
theorem okLot_yes (size : Int) (f0 f1 f2 : Int) (k : Nat) : okLot size true [f0, f1, f2] (k + 1) = !decide (([f0, f1, f2] : List Int)[k]?.getD 0 = size) := by unfold okLot; simp
set_option maxHeartbeats 40000000 in
theorem look_cons {lt : Nat} {size : Int} {l : List Rc} {sv fv : Value} {g : Nat} {b : Bool} {r : List Bool} (hm : Mok (mOf lt size l)) (ih : LookC lt size l sv fv g r) : LookC lt size l sv fv g (b :: r) := by
  intro pre c0 f0 f1 f2 pv s w hlen hfit hc0 hc1 hcnt hp hml hf hfo hlk
  have hl1 : 1 ≤ lt := by have h : 1 ≤ (lt : Int) := hm.l1; omega
  have hl3 : lt ≤ 3 := by have h : (lt : Int) ≤ 3 := hm.l3; omega
  have hs4 : size ≤ 4 := hm.s4
  have hn7 : l.length ≤ 7 := by have h := hm.n7; simp at h; exact h
  have HM := Lib.hid hm; have HP := Lib.hid hp; have HML := Lib.hid hml; have HLK := Lib.hid hlk; have HCN := Lib.hid hcnt; have HF := Lib.hid hf; have HFO := Lib.hid hfo
  have IH := Lib.hid ih
  obtain ⟨A, n, c, rfl, hn, hlc, hcm⟩ := hml.1.1.form
  obtain ⟨Ap, np, cp, rfl, hnp, hlp, hcp⟩ := hp.1.form
  obtain ⟨Af, nf, cf, rfl, hnf, hlf, hcf⟩ := hf.form
  have hlen' : pre.length + (r.length + 1) = l.length := by simpa using hlen
  obtain rfl : nf = n := by have h1 := hnf.out; have h2 := hn.out; unfold fitL at h1; simp at h1; omega
  have hnpn : np < nf := by have := hn.out; have := hnp.out; omega
  have hnpz : (np : Int) < (nf : Int) := by omega
  have hne : ((np : Int) == (nf : Int)) = false := by simp; omega
  have HPL := Lib.hid (show pre.length = np from hnp.out.symm)
  have HL := Lib.hid (show l.length = nf from hn.out.symm)
  have HFB := Lib.hid (show (fitL (mOf lt size l))[np]? = some b by
    have h := hfit
    rw [hnp.out.symm] at h
    have h1 : ((fitL (mOf lt size l)).drop np)[0]? = some b := by rw [h]; rfl
    simpa using h1)
  have HFR := Lib.hid (show (fitL (mOf lt size l)).drop (np + 1) = r by
    have h := hfit
    rw [hnp.out.symm] at h
    rw [← List.drop_drop, h]; rfl)
  have HLN := Lib.hid (lookP_cons (mOf lt size l) pre b r [f0, f1, f2] s)
  have hlt0 : (mOf (lt : Int) size l).lots.toNat = lt := by show ((lt : Int)).toNat = lt; omega
  rw [hlt0] at HLN
  have HLS := Lib.hid (lookL_succ (mOf lt size l) pre b r [f0, f1, f2] s)
  have HLZ := Lib.hid (show lookL (mOf lt size l) pre b r [f0, f1, f2] s 0 = s from rfl)
  have HG := Lib.hid hlk.found.lt
  have hsz : (mOf (lt : Int) size l).size = size := rfl
  rw [hsz] at HLS
  have hlen2 : np + 1 + r.length = l.length := by have := hnp.out; omega
  have hc7 : c0 ≤ 7 := by have := hnp.out; omega
  have HCL := Lib.hid (show c0 ≤ (np : Int) by have := hnp.out; omega)
  clear hm hp hml hlk hf hfo hfit hlen hlen' hc1 hn hnp hnf hcnt hlt0 hsz ih
  go_enter Tryd.func103, Tryd.ntmps103
  go_wp2
  generalize hW5 : ((w.alloc (.cells #[.int .i64 (lt : Int), .int .i64 size, .slice A nf c] 24)).alloc (.cells #[.int .i64 c0, .int .i64 f0, .int .i64 f1, .int .i64 f2] 167)) = w5
  have B0 := Lib.hid (show Blk w5 w.heap.size 24 #[.int .i64 (lt : Int), .int .i64 size, .slice A nf c] from hW5 ▸ (Blk.new _ _ _).alloc _)
  have B1 := Lib.hid (show Blk w5 (w.heap.size + 1) 167 #[.int .i64 c0, .int .i64 f0, .int .i64 f1, .int .i64 f2] from hW5 ▸ (Blk.at_ (by simp)))
  have E5 := Lib.hid (show Ext w w5 from hW5 ▸ (Ext.al _ _).alloc _)
  clear hW5
  go_loopg [17] (lt + 1) (fun gg s17 wr => ∃ k : Nat, s17 = .int .i64 (k : Int) ∧ k ≤ lt + 1 ∧ lt + 1 - k ≤ gg ∧ Aside (Lk g (lookL (mOf lt size l) pre b r [f0, f1, f2] s k) wr) ∧ Aside (Gap g (g + 3) w5 wr))
  case atStart => exact ⟨0, by simp, by omega, by omega, by rw [HLZ.out]; exact HLK.out.ext E5.out, Gap.refl _ _ _⟩
  case round =>
    obtain ⟨k, rfl, hk, hgg, HLQ, HGQ⟩ := hrel
    have HB0 := Lib.hid (HGQ.out.blk B0.out (.inr (by have := HG.out; omega)))
    have HB1 := Lib.hid (HGQ.out.blk B1.out (.inr (by have := HG.out; omega)))
    have HFQ := Lib.hid (show SlBo wr (.slice Af nf cf) (fitL (mOf lt size l)) from (HF.out.ext E5.out).gap HGQ.out fun h0 b o e => .inr (HFO.out b o nf cf (by rw [e]) (by have h1 := HL.out; unfold fitL at h0; simp at h0; omega)))
    have HPQ := Lib.hid ((HP.out.ext E5.out).gap HGQ.out)
    by_cases hkl : k ≤ lt
    · have hkz : (k : Int) ≤ (lt : Int) := by omega
      have k0 := HB0.out.c3.1
      have m0 := fun W (h : Ext wr W) => ((HB0.out).ext h).c3.2.1
      have p1 := fun W (h : Ext wr W) => ((HB1.out).ext h).c4.1
      have p2 := fun W (h : Ext wr W) => ((HB1.out).ext h).c4.2.1
      have p3 := fun W (h : Ext wr W) => ((HB1.out).ext h).c4.2.2.1
      have p4 := fun W (h : Ext wr W) => ((HB1.out).ext h).c4.2.2.2.1
      obtain ⟨bf', off', y, rfl, hy, hb', hcell'⟩ := HFQ.out.at_ hnpn
      obtain rfl : y = b := by have := HFB.out; rw [hy] at this; injection this
      have q0 := fun W (h : Ext wr W) => SlBo.cell hcell' h
      clear hcell' hy
      have hk3 : k = 0 ∨ k = 1 ∨ k = 2 ∨ k = 3 := by omega
      rcases hk3 with rfl | rfl | rfl | rfl
      · have HOK := Lib.hid (okLot_zero size y [f0, f1, f2])
        have hw1 : IntKind.i64.wrap (c0 + 1) = c0 + 1 := by rw [IntKind.wrap_i64]; omega
        go_wp2_with fail
        refine wp_region_tame (fun W => Ext wr W) (fun W W' => Ext W W') (by kernel_rfl) 103 rfl (by decide +kernel) (Ext.refl _).drew ?_
        repeat (apply tame_q rfl; (intro ρ W hC hr hD; (obtain ⟨hrc, hrg, hrf, hrs⟩ := hr); (simp [go_sem] at hD); go_simp; first | exact ⟨⟨hC, Ext.refl _⟩, rfl⟩ | exact ⟨⟨hC, RS.refl _⟩, rfl⟩ | exact rfl); simp only [List.nil_append, List.cons_append])
        refine tame_end 103 rfl rfl (fun ρ W hC hr hF => ?_)
        obtain ⟨hrc, hrg, hrf, hrs⟩ := hr
        simp [go_sem] at hF
        apply frame_to
        · go_simp
          exact rfl
        clear hF hrs hrc hrg hrf
        have HEX := Lib.hid hC
        clear hC
        have p1' := p1 _ HEX.out
        have p2' := p2 _ HEX.out
        have p3' := p3 _ HEX.out
        have p4' := p4 _ HEX.out
        clear p1 p2 p3 p4 q0 m0 k0
        go_wp2
        obtain ⟨w9, hw9⟩ : ∃ w9, w9 = W.alloc (.cells #[.int .i64 (c0 + 1), .int .i64 f0, .int .i64 f1, .int .i64 f2] 167) := ⟨_, rfl⟩
        rw [← hw9]
        have E9 := Lib.hid (show Ext wr w9 from hw9 ▸ (HEX.out.alloc _))
        have HB9 := Lib.hid (show Blk w9 W.heap.size 167 #[.int .i64 (c0 + 1), .int .i64 f0, .int .i64 f1, .int .i64 f2] from hw9 ▸ Blk.new _ _ _)
        clear hw9 p1' p2' p3' p4'
        have v0 := fun V (h : Ext w9 V) => (HB0.out.ext (E9.out.trans h)).c3.1
        have v1 := fun V (h : Ext w9 V) => (HB0.out.ext (E9.out.trans h)).c3.2.1
        have v2 := fun V (h : Ext w9 V) => (HB0.out.ext (E9.out.trans h)).c3.2.2.1
        have u0 := fun V (h : Ext w9 V) => (HB9.out.ext h).c4.1
        have u1 := fun V (h : Ext w9 V) => (HB9.out.ext h).c4.2.1
        have u2 := fun V (h : Ext w9 V) => (HB9.out.ext h).c4.2.2.1
        have u3 := fun V (h : Ext w9 V) => (HB9.out.ext h).c4.2.2.2.1
        refine wp_region_tame_cut (fun V => Ext w9 V) (RC w9.heap.size pre (0 : Int)) (by kernel_rfl) 103 rfl _ rfl (by decide +kernel) (by decide +kernel) (by decide +kernel) rfl (Ext.refl _).drew ?_
        simp only [List.dropLast]
        repeat (apply tame_q rfl; (intro ρ W hC hr hD; (obtain ⟨hrc, hrg, hrf, hrs⟩ := hr); (simp [go_sem] at hD); go_simp; first | exact ⟨⟨hC, RC.refl _⟩, rfl⟩ | exact rfl); simp only [List.nil_append, List.cons_append])
        apply tame_v rfl (EmptyAt 3 w9.heap.size) (fun v V V' _ hR h => by obtain ⟨bb, h1, h2, h3⟩ := h; exact ⟨bb, h1, h2, hR.2.2.2.2 bb h3⟩)
        · intro ρ V hC hr hD
          obtain ⟨hrc, hrg, hrf, hrs⟩ := hr
          simp [go_sem] at hD
          go_simp
          exact ⟨⟨hC.alloc _, RC.ext (Ext.al _ _)⟩, ⟨_, rfl, hC.size, Blk.new _ _ _⟩⟩
        simp only [List.nil_append, List.cons_append]
        repeat (apply tame_q rfl; (intro ρ W hC hr hD; (obtain ⟨hrc, hrg, hrf, hrs⟩ := hr); (simp [go_sem] at hD); go_simp; first | exact ⟨⟨hC, RC.refl _⟩, rfl⟩ | exact rfl); simp only [List.nil_append, List.cons_append])
        apply tame_v rfl (NewI w9.heap.size pre) (fun v V V' _ hR h => ⟨hR.2.1 v h.1, h.2⟩)
        · intro ρ V hC hr hD
          obtain ⟨hrc, hrg, hrf, hrs⟩ := hr
          simp [go_sem] at hD
          obtain ⟨⟨bb, d1, d2, d3⟩, d4⟩ := hD
          obtain ⟨v', V', hrun, hn, hE⟩ := run_copyI d3 d2 hC.size ((HPQ.out.1.ext E9.out).ext hC) (by have := HPL.out; omega) 27
          show opGives _ _ _ _ _ _ _
          unfold opGives execOp
          simp only [resolve, invoke, builtin, Sem.run_bind, Sem.run_pure, Result.andThen_ok, List.map_toArray, List.map_cons, List.map_nil, d1, d4, hrun]
          exact ⟨⟨hC.trans hE, RC.ext hE⟩, hn⟩
        simp only [List.nil_append, List.cons_append]
        repeat (apply tame_q rfl; (intro ρ W hC hr hD; (obtain ⟨hrc, hrg, hrf, hrs⟩ := hr); (simp [go_sem] at hD); go_simp; first | exact ⟨⟨hC, RC.refl _⟩, rfl⟩ | exact rfl); simp only [List.nil_append, List.cons_append])
        apply tame_v rfl (OneB (0 : Int)) (fun v V V' _ hR h => by obtain ⟨bb, h1, h2⟩ := h; exact ⟨bb, h1, hR.2.2.2.1 bb h2⟩)
        · intro ρ V hC hr hD
          obtain ⟨hrc, hrg, hrf, hrs⟩ := hr
          simp [go_sem] at hD
          go_simp
          exact ⟨⟨hC.alloc _, RC.ext (Ext.al _ _)⟩, ⟨_, rfl, Blk.new _ _ _⟩⟩
        simp only [List.nil_append, List.cons_append]
        apply tame_v rfl (fun v V => Own encI 3 1 V w9.heap.size v (pre ++ [(0 : Int)])) (fun v V V' _ hR h => hR.2.2.1 _ (List.prefix_refl _) v h)
        · intro ρ V hC hr hD
          obtain ⟨hrc, hrg, hrf, hrs⟩ := hr
          simp [go_sem] at hD
          obtain ⟨d1, ⟨bb, d2, d3⟩, -⟩ := hD
          obtain ⟨v', V', hrun, ho, hR, hB⟩ := run_appc (c := 1) d1 hC.size (by have := HPL.out; omega) d3 27
          show opGives _ _ _ _ _ _ _
          unfold opGives execOp
          simp only [resolve, invoke, builtin, Sem.run_bind, Sem.run_pure, Result.andThen_ok, List.map_toArray, List.map_cons, List.map_nil, d2, hrun]
          exact ⟨⟨Below.trans hC hB, hR⟩, ho⟩
        simp only [List.nil_append, List.cons_append]
        repeat (apply tame_q rfl; (intro ρ W hC hr hD; (obtain ⟨hrc, hrg, hrf, hrs⟩ := hr); (simp [go_sem] at hD); go_simp; first | exact ⟨⟨hC, RC.refl _⟩, rfl⟩ | exact rfl); simp only [List.nil_append, List.cons_append])
        refine tame_end 103 rfl rfl (fun ρ V hC hr hF => ?_)
        obtain ⟨hrc, hrg, hrf, hrs⟩ := hr
        simp [go_sem] at hF
        obtain ⟨f90, f91, ⟨b92, f92, -⟩, f93, f94, f95, ⟨b96, f96, -⟩, f97, f98, f99, f100, f101⟩ := hF
        have HC9 := Lib.hid (E9.out.trans hC)
        have hso := SlO.own f97 (show g + 3 ≤ w9.heap.size by have h1 := HG.out; have h2 := E5.out.size; have h3 := HGQ.out.size; have h4 := E9.out.size; omega)
        obtain ⟨A7, n7, c7, e97, -, -, -⟩ := hso.1.form
        rw [e97] at hso
        have HSO := Lib.hid hso
        clear hso f97
        apply frame_to
        · go_simp
          exact rfl
        clear e97 f90 f91 f92 f93 f94 f95 f96 f98 f99 f100 f101 hrs hrc hrg hrf v0 v1 v2 u0 u1 u2 u3 hC
        have HIC := Lib.hid (IH.out (pre ++ [(0 : Int)]) ((c0 + 1)) (f0) (f1) (f2) _ _ V (by rw [List.length_append]; simp; have := HPL.out; omega) (by rw [List.length_append, HPL.out]; exact HFR.out) (by omega) (by rw [List.length_append]; simp; have := HPL.out; have := HCL.out; omega) HCN.out HSO.out ((HML.out.ext E5.out |>.gap HGQ.out).ext HC9.out) (HFQ.out.ext HC9.out) HFO.out (HLQ.out.ext HC9.out))
        have HNX := Lib.hid (show lookL (mOf lt size l) pre y r [f0, f1, f2] s (0 + 1) = lookP (mOf lt size l) (pre ++ [(0 : Int)]) r [f0, f1, f2] (lookL (mOf lt size l) pre y r [f0, f1, f2] s 0) by
          rw [HLS.out 0, HOK.out]; rfl)
        go_wp2_with fail
        refine HIC.out.mono ?_
        rintro e w10 ⟨⟨rv, rfl⟩, hlk, hgp⟩
        have HLK10 := Lib.hid hlk
        have HG10 := Lib.hid (HGQ.out.trans ((Gap.of_ext HC9.out).trans hgp))
        clear hlk hgp
        go_wp2
        go_roundg (lt + 1 - (0 + 1))
        case measure => omega
        case rel => exact ⟨0 + 1, by simp, by omega, by omega, by rw [HNX.out]; exact HLK10.out, HG10.out⟩
      · cases hbb : y
        · rw [hbb] at q0
          have HNX := Lib.hid (show lookL (mOf lt size l) pre y r [f0, f1, f2] s (1 + 1) = lookL (mOf lt size l) pre y r [f0, f1, f2] s 1 by rw [HLS.out 1, hbb, okLot_no]; rfl)
          clear hbb
          go_wp2_with fail
          refine wp_region_tame (fun W => Ext wr W) (fun W W' => Ext W W') (by kernel_rfl) 103 rfl (by decide +kernel) (Ext.refl _).drew ?_
          repeat (apply tame_q rfl; (intro ρ W hC hr hD; (obtain ⟨hrc, hrg, hrf, hrs⟩ := hr); (simp [go_sem] at hD); go_simp; first | exact ⟨⟨hC, Ext.refl _⟩, rfl⟩ | exact ⟨⟨hC, RS.refl _⟩, rfl⟩ | exact rfl); simp only [List.nil_append, List.cons_append])
          refine tame_end 103 rfl rfl (fun ρ W hC hr hF => ?_)
          obtain ⟨hrc, hrg, hrf, hrs⟩ := hr
          simp [go_sem] at hF
          apply frame_to
          · go_simp
            exact rfl
          clear hF hrs hrc hrg hrf
          have HEX := Lib.hid hC
          clear hC
          clear p1 p2 p3 p4 q0 m0 k0
          go_wp2
          go_roundg (lt + 1 - (1 + 1))
          case measure => omega
          case rel => exact ⟨1 + 1, by simp, by omega, by omega, by rw [HNX.out]; exact (HLQ.out.ext HEX.out), HGQ.out.trans (Gap.of_ext HEX.out)⟩
        · by_cases hfs : f0 = size
          · have hfb : (f0 == size) = true := by simpa using hfs
            have HNX := Lib.hid (show lookL (mOf lt size l) pre y r [f0, f1, f2] s (1 + 1) = lookL (mOf lt size l) pre y r [f0, f1, f2] s 1 by rw [HLS.out 1, hbb, show okLot size true [f0, f1, f2] 1 = false by rw [okLot_yes]; simpa using hfs]; rfl)
            rw [hbb] at q0
            clear hbb hfs
            go_wp2_with fail
            refine wp_region_tame (fun W => Ext wr W) (fun W W' => Ext W W') (by kernel_rfl) 103 rfl (by decide +kernel) (Ext.refl _).drew ?_
            repeat (apply tame_q rfl; (intro ρ W hC hr hD; (obtain ⟨hrc, hrg, hrf, hrs⟩ := hr); (simp [go_sem] at hD); go_simp; first | exact ⟨⟨hC, Ext.refl _⟩, rfl⟩ | exact ⟨⟨hC, RS.refl _⟩, rfl⟩ | exact rfl); simp only [List.nil_append, List.cons_append])
            refine tame_end 103 rfl rfl (fun ρ W hC hr hF => ?_)
            obtain ⟨hrc, hrg, hrf, hrs⟩ := hr
            simp [go_sem] at hF
            apply frame_to
            · go_simp
              exact rfl
            clear hF hrs hrc hrg hrf
            have HEX := Lib.hid hC
            clear hC
            clear p1 p2 p3 p4 q0 m0 k0
            go_wp2
            go_roundg (lt + 1 - (1 + 1))
            case measure => omega
            case rel => exact ⟨1 + 1, by simp, by omega, by omega, by rw [HNX.out]; exact (HLQ.out.ext HEX.out), HGQ.out.trans (Gap.of_ext HEX.out)⟩
          · have hfb : (f0 == size) = false := by simpa using hfs
            have HOK := Lib.hid (show okLot size y [f0, f1, f2] 1 = true by rw [hbb, okLot_yes]; simpa using hfs)
            have hcn := HCN.out
            have HCU := Lib.hid (show Cnt lt size (f0 + 1) f1 f2 from ⟨⟨by have := hcn.1; omega, by have := hcn.1; omega, by have := hcn.1; omega, by have := hcn.1; omega, by have := hcn.1; omega, by have := hcn.1; omega⟩, fun h => by have := hcn.2.1; omega, fun h => by have := hcn.2.2; omega⟩)
            have hw1 : IntKind.i64.wrap (f0 + 1) = f0 + 1 := by rw [IntKind.wrap_i64]; have := hcn.1; omega
            rw [hbb] at q0
            clear hbb hfs hcn
            go_wp2_with fail
            refine wp_region_tame (fun W => Ext wr W) (fun W W' => Ext W W') (by kernel_rfl) 103 rfl (by decide +kernel) (Ext.refl _).drew ?_
            repeat (apply tame_q rfl; (intro ρ W hC hr hD; (obtain ⟨hrc, hrg, hrf, hrs⟩ := hr); (simp [go_sem] at hD); go_simp; first | exact ⟨⟨hC, Ext.refl _⟩, rfl⟩ | exact ⟨⟨hC, RS.refl _⟩, rfl⟩ | exact rfl); simp only [List.nil_append, List.cons_append])
            refine tame_end 103 rfl rfl (fun ρ W hC hr hF => ?_)
            obtain ⟨hrc, hrg, hrf, hrs⟩ := hr
            simp [go_sem] at hF
            apply frame_to
            · go_simp
              exact rfl
            clear hF hrs hrc hrg hrf
            have HEX := Lib.hid hC
            clear hC
            have p1' := p1 _ HEX.out
            have p2' := p2 _ HEX.out
            have p3' := p3 _ HEX.out
            have p4' := p4 _ HEX.out
            clear p1 p2 p3 p4 q0 m0 k0
            go_wp2
            obtain ⟨w9, hw9⟩ : ∃ w9, w9 = W.alloc (.cells #[.int .i64 c0, .int .i64 (f0 + 1), .int .i64 f1, .int .i64 f2] 167) := ⟨_, rfl⟩
            rw [← hw9]
            have E9 := Lib.hid (show Ext wr w9 from hw9 ▸ (HEX.out.alloc _))
            have HB9 := Lib.hid (show Blk w9 W.heap.size 167 #[.int .i64 c0, .int .i64 (f0 + 1), .int .i64 f1, .int .i64 f2] from hw9 ▸ Blk.new _ _ _)
            clear hw9 p1' p2' p3' p4'
            have v0 := fun V (h : Ext w9 V) => (HB0.out.ext (E9.out.trans h)).c3.1
            have v1 := fun V (h : Ext w9 V) => (HB0.out.ext (E9.out.trans h)).c3.2.1
            have v2 := fun V (h : Ext w9 V) => (HB0.out.ext (E9.out.trans h)).c3.2.2.1
            have u0 := fun V (h : Ext w9 V) => (HB9.out.ext h).c4.1
            have u1 := fun V (h : Ext w9 V) => (HB9.out.ext h).c4.2.1
            have u2 := fun V (h : Ext w9 V) => (HB9.out.ext h).c4.2.2.1
            have u3 := fun V (h : Ext w9 V) => (HB9.out.ext h).c4.2.2.2.1
            refine wp_region_tame_cut (fun V => Ext w9 V) (RC w9.heap.size pre (1 : Int)) (by kernel_rfl) 103 rfl _ rfl (by decide +kernel) (by decide +kernel) (by decide +kernel) rfl (Ext.refl _).drew ?_
            simp only [List.dropLast]
            repeat (apply tame_q rfl; (intro ρ W hC hr hD; (obtain ⟨hrc, hrg, hrf, hrs⟩ := hr); (simp [go_sem] at hD); go_simp; first | exact ⟨⟨hC, RC.refl _⟩, rfl⟩ | exact rfl); simp only [List.nil_append, List.cons_append])
            apply tame_v rfl (EmptyAt 3 w9.heap.size) (fun v V V' _ hR h => by obtain ⟨bb, h1, h2, h3⟩ := h; exact ⟨bb, h1, h2, hR.2.2.2.2 bb h3⟩)
            · intro ρ V hC hr hD
              obtain ⟨hrc, hrg, hrf, hrs⟩ := hr
              simp [go_sem] at hD
              go_simp
              exact ⟨⟨hC.alloc _, RC.ext (Ext.al _ _)⟩, ⟨_, rfl, hC.size, Blk.new _ _ _⟩⟩
            simp only [List.nil_append, List.cons_append]
            repeat (apply tame_q rfl; (intro ρ W hC hr hD; (obtain ⟨hrc, hrg, hrf, hrs⟩ := hr); (simp [go_sem] at hD); go_simp; first | exact ⟨⟨hC, RC.refl _⟩, rfl⟩ | exact rfl); simp only [List.nil_append, List.cons_append])
            apply tame_v rfl (NewI w9.heap.size pre) (fun v V V' _ hR h => ⟨hR.2.1 v h.1, h.2⟩)
            · intro ρ V hC hr hD
              obtain ⟨hrc, hrg, hrf, hrs⟩ := hr
              simp [go_sem] at hD
              obtain ⟨⟨bb, d1, d2, d3⟩, d4⟩ := hD
              obtain ⟨v', V', hrun, hn, hE⟩ := run_copyI d3 d2 hC.size ((HPQ.out.1.ext E9.out).ext hC) (by have := HPL.out; omega) 27
              show opGives _ _ _ _ _ _ _
              unfold opGives execOp
              simp only [resolve, invoke, builtin, Sem.run_bind, Sem.run_pure, Result.andThen_ok, List.map_toArray, List.map_cons, List.map_nil, d1, d4, hrun]
              exact ⟨⟨hC.trans hE, RC.ext hE⟩, hn⟩
            simp only [List.nil_append, List.cons_append]
            repeat (apply tame_q rfl; (intro ρ W hC hr hD; (obtain ⟨hrc, hrg, hrf, hrs⟩ := hr); (simp [go_sem] at hD); go_simp; first | exact ⟨⟨hC, RC.refl _⟩, rfl⟩ | exact rfl); simp only [List.nil_append, List.cons_append])
            apply tame_v rfl (OneB (1 : Int)) (fun v V V' _ hR h => by obtain ⟨bb, h1, h2⟩ := h; exact ⟨bb, h1, hR.2.2.2.1 bb h2⟩)
            · intro ρ V hC hr hD
              obtain ⟨hrc, hrg, hrf, hrs⟩ := hr
              simp [go_sem] at hD
              go_simp
              exact ⟨⟨hC.alloc _, RC.ext (Ext.al _ _)⟩, ⟨_, rfl, Blk.new _ _ _⟩⟩
            simp only [List.nil_append, List.cons_append]
            apply tame_v rfl (fun v V => Own encI 3 1 V w9.heap.size v (pre ++ [(1 : Int)])) (fun v V V' _ hR h => hR.2.2.1 _ (List.prefix_refl _) v h)
            · intro ρ V hC hr hD
              obtain ⟨hrc, hrg, hrf, hrs⟩ := hr
              simp [go_sem] at hD
              obtain ⟨d1, ⟨bb, d2, d3⟩, -⟩ := hD
              obtain ⟨v', V', hrun, ho, hR, hB⟩ := run_appc (c := 1) d1 hC.size (by have := HPL.out; omega) d3 27
              show opGives _ _ _ _ _ _ _
              unfold opGives execOp
              simp only [resolve, invoke, builtin, Sem.run_bind, Sem.run_pure, Result.andThen_ok, List.map_toArray, List.map_cons, List.map_nil, d2, hrun]
              exact ⟨⟨Below.trans hC hB, hR⟩, ho⟩
            simp only [List.nil_append, List.cons_append]
            repeat (apply tame_q rfl; (intro ρ W hC hr hD; (obtain ⟨hrc, hrg, hrf, hrs⟩ := hr); (simp [go_sem] at hD); go_simp; first | exact ⟨⟨hC, RC.refl _⟩, rfl⟩ | exact rfl); simp only [List.nil_append, List.cons_append])
            refine tame_end 103 rfl rfl (fun ρ V hC hr hF => ?_)
            obtain ⟨hrc, hrg, hrf, hrs⟩ := hr
            simp [go_sem] at hF
            obtain ⟨f90, f91, ⟨b92, f92, -⟩, f93, f94, f95, ⟨b96, f96, -⟩, f97, f98, f99, f100, f101⟩ := hF
            have HC9 := Lib.hid (E9.out.trans hC)
            have hso := SlO.own f97 (show g + 3 ≤ w9.heap.size by have h1 := HG.out; have h2 := E5.out.size; have h3 := HGQ.out.size; have h4 := E9.out.size; omega)
            obtain ⟨A7, n7, c7, e97, -, -, -⟩ := hso.1.form
            rw [e97] at hso
            have HSO := Lib.hid hso
            clear hso f97
            apply frame_to
            · go_simp
              exact rfl
            clear e97 f90 f91 f92 f93 f94 f95 f96 f98 f99 f100 f101 hrs hrc hrg hrf v0 v1 v2 u0 u1 u2 u3 hC
            have HIC := Lib.hid (IH.out (pre ++ [(1 : Int)]) (c0) ((f0 + 1)) (f1) (f2) _ _ V (by rw [List.length_append]; simp; have := HPL.out; omega) (by rw [List.length_append, HPL.out]; exact HFR.out) (by omega) (by rw [List.length_append]; simp; have := HPL.out; have := HCL.out; omega) HCU.out HSO.out ((HML.out.ext E5.out |>.gap HGQ.out).ext HC9.out) (HFQ.out.ext HC9.out) HFO.out (HLQ.out.ext HC9.out))
            have HNX := Lib.hid (show lookL (mOf lt size l) pre y r [f0, f1, f2] s (1 + 1) = lookP (mOf lt size l) (pre ++ [(1 : Int)]) r [(f0 + 1), f1, f2] (lookL (mOf lt size l) pre y r [f0, f1, f2] s 1) by
              rw [HLS.out 1, HOK.out]; rfl)
            go_wp2_with fail
            refine HIC.out.mono ?_
            rintro e w10 ⟨⟨rv, rfl⟩, hlk, hgp⟩
            have HLK10 := Lib.hid hlk
            have HG10 := Lib.hid (HGQ.out.trans ((Gap.of_ext HC9.out).trans hgp))
            clear hlk hgp
            go_wp2
            go_roundg (lt + 1 - (1 + 1))
            case measure => omega
            case rel => exact ⟨1 + 1, by simp, by omega, by omega, by rw [HNX.out]; exact HLK10.out, HG10.out⟩
      · cases hbb : y
        · rw [hbb] at q0
          have HNX := Lib.hid (show lookL (mOf lt size l) pre y r [f0, f1, f2] s (2 + 1) = lookL (mOf lt size l) pre y r [f0, f1, f2] s 2 by rw [HLS.out 2, hbb, okLot_no]; rfl)
          clear hbb
          go_wp2_with fail
          refine wp_region_tame (fun W => Ext wr W) (fun W W' => Ext W W') (by kernel_rfl) 103 rfl (by decide +kernel) (Ext.refl _).drew ?_
          repeat (apply tame_q rfl; (intro ρ W hC hr hD; (obtain ⟨hrc, hrg, hrf, hrs⟩ := hr); (simp [go_sem] at hD); go_simp; first | exact ⟨⟨hC, Ext.refl _⟩, rfl⟩ | exact ⟨⟨hC, RS.refl _⟩, rfl⟩ | exact rfl); simp only [List.nil_append, List.cons_append])
          refine tame_end 103 rfl rfl (fun ρ W hC hr hF => ?_)
          obtain ⟨hrc, hrg, hrf, hrs⟩ := hr
          simp [go_sem] at hF
          apply frame_to
          · go_simp
            exact rfl
          clear hF hrs hrc hrg hrf
          have HEX := Lib.hid hC
          clear hC
          clear p1 p2 p3 p4 q0 m0 k0
          go_wp2
          go_roundg (lt + 1 - (2 + 1))
          case measure => omega
          case rel => exact ⟨2 + 1, by simp, by omega, by omega, by rw [HNX.out]; exact (HLQ.out.ext HEX.out), HGQ.out.trans (Gap.of_ext HEX.out)⟩
        · by_cases hfs : f1 = size
          · have hfb : (f1 == size) = true := by simpa using hfs
            have HNX := Lib.hid (show lookL (mOf lt size l) pre y r [f0, f1, f2] s (2 + 1) = lookL (mOf lt size l) pre y r [f0, f1, f2] s 2 by rw [HLS.out 2, hbb, show okLot size true [f0, f1, f2] 2 = false by rw [okLot_yes]; simpa using hfs]; rfl)
            rw [hbb] at q0
            clear hbb hfs
            go_wp2_with fail
            refine wp_region_tame (fun W => Ext wr W) (fun W W' => Ext W W') (by kernel_rfl) 103 rfl (by decide +kernel) (Ext.refl _).drew ?_
            repeat (apply tame_q rfl; (intro ρ W hC hr hD; (obtain ⟨hrc, hrg, hrf, hrs⟩ := hr); (simp [go_sem] at hD); go_simp; first | exact ⟨⟨hC, Ext.refl _⟩, rfl⟩ | exact ⟨⟨hC, RS.refl _⟩, rfl⟩ | exact rfl); simp only [List.nil_append, List.cons_append])
            refine tame_end 103 rfl rfl (fun ρ W hC hr hF => ?_)
            obtain ⟨hrc, hrg, hrf, hrs⟩ := hr
            simp [go_sem] at hF
            apply frame_to
            · go_simp
              exact rfl
            clear hF hrs hrc hrg hrf
            have HEX := Lib.hid hC
            clear hC
            clear p1 p2 p3 p4 q0 m0 k0
            go_wp2
            go_roundg (lt + 1 - (2 + 1))
            case measure => omega
            case rel => exact ⟨2 + 1, by simp, by omega, by omega, by rw [HNX.out]; exact (HLQ.out.ext HEX.out), HGQ.out.trans (Gap.of_ext HEX.out)⟩
          · have hfb : (f1 == size) = false := by simpa using hfs
            have HOK := Lib.hid (show okLot size y [f0, f1, f2] 2 = true by rw [hbb, okLot_yes]; simpa using hfs)
            have hcn := HCN.out
            have HCU := Lib.hid (show Cnt lt size f0 (f1 + 1) f2 from ⟨⟨by have := hcn.1; omega, by have := hcn.1; omega, by have := hcn.1; omega, by have := hcn.1; omega, by have := hcn.1; omega, by have := hcn.1; omega⟩, fun h => by have := hcn.2.1; omega, fun h => by have := hcn.2.2; omega⟩)
            have hw1 : IntKind.i64.wrap (f1 + 1) = f1 + 1 := by rw [IntKind.wrap_i64]; have := hcn.1; omega
            rw [hbb] at q0
            clear hbb hfs hcn
            go_wp2_with fail
            refine wp_region_tame (fun W => Ext wr W) (fun W W' => Ext W W') (by kernel_rfl) 103 rfl (by decide +kernel) (Ext.refl _).drew ?_
            repeat (apply tame_q rfl; (intro ρ W hC hr hD; (obtain ⟨hrc, hrg, hrf, hrs⟩ := hr); (simp [go_sem] at hD); go_simp; first | exact ⟨⟨hC, Ext.refl _⟩, rfl⟩ | exact ⟨⟨hC, RS.refl _⟩, rfl⟩ | exact rfl); simp only [List.nil_append, List.cons_append])
            refine tame_end 103 rfl rfl (fun ρ W hC hr hF => ?_)
            obtain ⟨hrc, hrg, hrf, hrs⟩ := hr
            simp [go_sem] at hF
            apply frame_to
            · go_simp
              exact rfl
            clear hF hrs hrc hrg hrf
            have HEX := Lib.hid hC
            clear hC
            have p1' := p1 _ HEX.out
            have p2' := p2 _ HEX.out
            have p3' := p3 _ HEX.out
            have p4' := p4 _ HEX.out
            clear p1 p2 p3 p4 q0 m0 k0
            go_wp2
            obtain ⟨w9, hw9⟩ : ∃ w9, w9 = W.alloc (.cells #[.int .i64 c0, .int .i64 f0, .int .i64 (f1 + 1), .int .i64 f2] 167) := ⟨_, rfl⟩
            rw [← hw9]
            have E9 := Lib.hid (show Ext wr w9 from hw9 ▸ (HEX.out.alloc _))
            have HB9 := Lib.hid (show Blk w9 W.heap.size 167 #[.int .i64 c0, .int .i64 f0, .int .i64 (f1 + 1), .int .i64 f2] from hw9 ▸ Blk.new _ _ _)
            clear hw9 p1' p2' p3' p4'
            have v0 := fun V (h : Ext w9 V) => (HB0.out.ext (E9.out.trans h)).c3.1
            have v1 := fun V (h : Ext w9 V) => (HB0.out.ext (E9.out.trans h)).c3.2.1
            have v2 := fun V (h : Ext w9 V) => (HB0.out.ext (E9.out.trans h)).c3.2.2.1
            have u0 := fun V (h : Ext w9 V) => (HB9.out.ext h).c4.1
            have u1 := fun V (h : Ext w9 V) => (HB9.out.ext h).c4.2.1
            have u2 := fun V (h : Ext w9 V) => (HB9.out.ext h).c4.2.2.1
            have u3 := fun V (h : Ext w9 V) => (HB9.out.ext h).c4.2.2.2.1
            refine wp_region_tame_cut (fun V => Ext w9 V) (RC w9.heap.size pre (2 : Int)) (by kernel_rfl) 103 rfl _ rfl (by decide +kernel) (by decide +kernel) (by decide +kernel) rfl (Ext.refl _).drew ?_
            simp only [List.dropLast]
            repeat (apply tame_q rfl; (intro ρ W hC hr hD; (obtain ⟨hrc, hrg, hrf, hrs⟩ := hr); (simp [go_sem] at hD); go_simp; first | exact ⟨⟨hC, RC.refl _⟩, rfl⟩ | exact rfl); simp only [List.nil_append, List.cons_append])
            apply tame_v rfl (EmptyAt 3 w9.heap.size) (fun v V V' _ hR h => by obtain ⟨bb, h1, h2, h3⟩ := h; exact ⟨bb, h1, h2, hR.2.2.2.2 bb h3⟩)
            · intro ρ V hC hr hD
              obtain ⟨hrc, hrg, hrf, hrs⟩ := hr
              simp [go_sem] at hD
              go_simp
              exact ⟨⟨hC.alloc _, RC.ext (Ext.al _ _)⟩, ⟨_, rfl, hC.size, Blk.new _ _ _⟩⟩
            simp only [List.nil_append, List.cons_append]
            repeat (apply tame_q rfl; (intro ρ W hC hr hD; (obtain ⟨hrc, hrg, hrf, hrs⟩ := hr); (simp [go_sem] at hD); go_simp; first | exact ⟨⟨hC, RC.refl _⟩, rfl⟩ | exact rfl); simp only [List.nil_append, List.cons_append])
            apply tame_v rfl (NewI w9.heap.size pre) (fun v V V' _ hR h => ⟨hR.2.1 v h.1, h.2⟩)
            · intro ρ V hC hr hD
              obtain ⟨hrc, hrg, hrf, hrs⟩ := hr
              simp [go_sem] at hD
              obtain ⟨⟨bb, d1, d2, d3⟩, d4⟩ := hD
              obtain ⟨v', V', hrun, hn, hE⟩ := run_copyI d3 d2 hC.size ((HPQ.out.1.ext E9.out).ext hC) (by have := HPL.out; omega) 27
              show opGives _ _ _ _ _ _ _
              unfold opGives execOp
              simp only [resolve, invoke, builtin, Sem.run_bind, Sem.run_pure, Result.andThen_ok, List.map_toArray, List.map_cons, List.map_nil, d1, d4, hrun]
              exact ⟨⟨hC.trans hE, RC.ext hE⟩, hn⟩
            simp only [List.nil_append, List.cons_append]
            repeat (apply tame_q rfl; (intro ρ W hC hr hD; (obtain ⟨hrc, hrg, hrf, hrs⟩ := hr); (simp [go_sem] at hD); go_simp; first | exact ⟨⟨hC, RC.refl _⟩, rfl⟩ | exact rfl); simp only [List.nil_append, List.cons_append])
            apply tame_v rfl (OneB (2 : Int)) (fun v V V' _ hR h => by obtain ⟨bb, h1, h2⟩ := h; exact ⟨bb, h1, hR.2.2.2.1 bb h2⟩)
            · intro ρ V hC hr hD
              obtain ⟨hrc, hrg, hrf, hrs⟩ := hr
              simp [go_sem] at hD
              go_simp
              exact ⟨⟨hC.alloc _, RC.ext (Ext.al _ _)⟩, ⟨_, rfl, Blk.new _ _ _⟩⟩
            simp only [List.nil_append, List.cons_append]
            apply tame_v rfl (fun v V => Own encI 3 1 V w9.heap.size v (pre ++ [(2 : Int)])) (fun v V V' _ hR h => hR.2.2.1 _ (List.prefix_refl _) v h)
            · intro ρ V hC hr hD
              obtain ⟨hrc, hrg, hrf, hrs⟩ := hr
              simp [go_sem] at hD
              obtain ⟨d1, ⟨bb, d2, d3⟩, -⟩ := hD
              obtain ⟨v', V', hrun, ho, hR, hB⟩ := run_appc (c := 1) d1 hC.size (by have := HPL.out; omega) d3 27
              show opGives _ _ _ _ _ _ _
              unfold opGives execOp
              simp only [resolve, invoke, builtin, Sem.run_bind, Sem.run_pure, Result.andThen_ok, List.map_toArray, List.map_cons, List.map_nil, d2, hrun]
              exact ⟨⟨Below.trans hC hB, hR⟩, ho⟩
            simp only [List.nil_append, List.cons_append]
            repeat (apply tame_q rfl; (intro ρ W hC hr hD; (obtain ⟨hrc, hrg, hrf, hrs⟩ := hr); (simp [go_sem] at hD); go_simp; first | exact ⟨⟨hC, RC.refl _⟩, rfl⟩ | exact rfl); simp only [List.nil_append, List.cons_append])
            refine tame_end 103 rfl rfl (fun ρ V hC hr hF => ?_)
            obtain ⟨hrc, hrg, hrf, hrs⟩ := hr
            simp [go_sem] at hF
            obtain ⟨f90, f91, ⟨b92, f92, -⟩, f93, f94, f95, ⟨b96, f96, -⟩, f97, f98, f99, f100, f101⟩ := hF
            have HC9 := Lib.hid (E9.out.trans hC)
            have hso := SlO.own f97 (show g + 3 ≤ w9.heap.size by have h1 := HG.out; have h2 := E5.out.size; have h3 := HGQ.out.size; have h4 := E9.out.size; omega)
            obtain ⟨A7, n7, c7, e97, -, -, -⟩ := hso.1.form
            rw [e97] at hso
            have HSO := Lib.hid hso
            clear hso f97
            apply frame_to
            · go_simp
              exact rfl
            clear e97 f90 f91 f92 f93 f94 f95 f96 f98 f99 f100 f101 hrs hrc hrg hrf v0 v1 v2 u0 u1 u2 u3 hC
            have HIC := Lib.hid (IH.out (pre ++ [(2 : Int)]) (c0) (f0) ((f1 + 1)) (f2) _ _ V (by rw [List.length_append]; simp; have := HPL.out; omega) (by rw [List.length_append, HPL.out]; exact HFR.out) (by omega) (by rw [List.length_append]; simp; have := HPL.out; have := HCL.out; omega) HCU.out HSO.out ((HML.out.ext E5.out |>.gap HGQ.out).ext HC9.out) (HFQ.out.ext HC9.out) HFO.out (HLQ.out.ext HC9.out))
            have HNX := Lib.hid (show lookL (mOf lt size l) pre y r [f0, f1, f2] s (2 + 1) = lookP (mOf lt size l) (pre ++ [(2 : Int)]) r [f0, (f1 + 1), f2] (lookL (mOf lt size l) pre y r [f0, f1, f2] s 2) by
              rw [HLS.out 2, HOK.out]; rfl)
            go_wp2_with fail
            refine HIC.out.mono ?_
            rintro e w10 ⟨⟨rv, rfl⟩, hlk, hgp⟩
            have HLK10 := Lib.hid hlk
            have HG10 := Lib.hid (HGQ.out.trans ((Gap.of_ext HC9.out).trans hgp))
            clear hlk hgp
            go_wp2
            go_roundg (lt + 1 - (2 + 1))
            case measure => omega
            case rel => exact ⟨2 + 1, by simp, by omega, by omega, by rw [HNX.out]; exact HLK10.out, HG10.out⟩
      · cases hbb : y
        · rw [hbb] at q0
          have HNX := Lib.hid (show lookL (mOf lt size l) pre y r [f0, f1, f2] s (3 + 1) = lookL (mOf lt size l) pre y r [f0, f1, f2] s 3 by rw [HLS.out 3, hbb, okLot_no]; rfl)
          clear hbb
          go_wp2_with fail
          refine wp_region_tame (fun W => Ext wr W) (fun W W' => Ext W W') (by kernel_rfl) 103 rfl (by decide +kernel) (Ext.refl _).drew ?_
          repeat (apply tame_q rfl; (intro ρ W hC hr hD; (obtain ⟨hrc, hrg, hrf, hrs⟩ := hr); (simp [go_sem] at hD); go_simp; first | exact ⟨⟨hC, Ext.refl _⟩, rfl⟩ | exact ⟨⟨hC, RS.refl _⟩, rfl⟩ | exact rfl); simp only [List.nil_append, List.cons_append])
          refine tame_end 103 rfl rfl (fun ρ W hC hr hF => ?_)
          obtain ⟨hrc, hrg, hrf, hrs⟩ := hr
          simp [go_sem] at hF
          apply frame_to
          · go_simp
            exact rfl
          clear hF hrs hrc hrg hrf
          have HEX := Lib.hid hC
          clear hC
          clear p1 p2 p3 p4 q0 m0 k0
          go_wp2
          go_roundg (lt + 1 - (3 + 1))
          case measure => omega
          case rel => exact ⟨3 + 1, by simp, by omega, by omega, by rw [HNX.out]; exact (HLQ.out.ext HEX.out), HGQ.out.trans (Gap.of_ext HEX.out)⟩
        · by_cases hfs : f2 = size
          · have hfb : (f2 == size) = true := by simpa using hfs
            have HNX := Lib.hid (show lookL (mOf lt size l) pre y r [f0, f1, f2] s (3 + 1) = lookL (mOf lt size l) pre y r [f0, f1, f2] s 3 by rw [HLS.out 3, hbb, show okLot size true [f0, f1, f2] 3 = false by rw [okLot_yes]; simpa using hfs]; rfl)
            rw [hbb] at q0
            clear hbb hfs
            go_wp2_with fail
            refine wp_region_tame (fun W => Ext wr W) (fun W W' => Ext W W') (by kernel_rfl) 103 rfl (by decide +kernel) (Ext.refl _).drew ?_
            repeat (apply tame_q rfl; (intro ρ W hC hr hD; (obtain ⟨hrc, hrg, hrf, hrs⟩ := hr); (simp [go_sem] at hD); go_simp; first | exact ⟨⟨hC, Ext.refl _⟩, rfl⟩ | exact ⟨⟨hC, RS.refl _⟩, rfl⟩ | exact rfl); simp only [List.nil_append, List.cons_append])
            refine tame_end 103 rfl rfl (fun ρ W hC hr hF => ?_)
            obtain ⟨hrc, hrg, hrf, hrs⟩ := hr
            simp [go_sem] at hF
            apply frame_to
            · go_simp
              exact rfl
            clear hF hrs hrc hrg hrf
            have HEX := Lib.hid hC
            clear hC
            clear p1 p2 p3 p4 q0 m0 k0
            go_wp2
            go_roundg (lt + 1 - (3 + 1))
            case measure => omega
            case rel => exact ⟨3 + 1, by simp, by omega, by omega, by rw [HNX.out]; exact (HLQ.out.ext HEX.out), HGQ.out.trans (Gap.of_ext HEX.out)⟩
          · have hfb : (f2 == size) = false := by simpa using hfs
            have HOK := Lib.hid (show okLot size y [f0, f1, f2] 3 = true by rw [hbb, okLot_yes]; simpa using hfs)
            have hcn := HCN.out
            have HCU := Lib.hid (show Cnt lt size f0 f1 (f2 + 1) from ⟨⟨by have := hcn.1; omega, by have := hcn.1; omega, by have := hcn.1; omega, by have := hcn.1; omega, by have := hcn.1; omega, by have := hcn.1; omega⟩, fun h => by have := hcn.2.1; omega, fun h => by have := hcn.2.2; omega⟩)
            have hw1 : IntKind.i64.wrap (f2 + 1) = f2 + 1 := by rw [IntKind.wrap_i64]; have := hcn.1; omega
            rw [hbb] at q0
            clear hbb hfs hcn
            go_wp2_with fail
            refine wp_region_tame (fun W => Ext wr W) (fun W W' => Ext W W') (by kernel_rfl) 103 rfl (by decide +kernel) (Ext.refl _).drew ?_
            repeat (apply tame_q rfl; (intro ρ W hC hr hD; (obtain ⟨hrc, hrg, hrf, hrs⟩ := hr); (simp [go_sem] at hD); go_simp; first | exact ⟨⟨hC, Ext.refl _⟩, rfl⟩ | exact ⟨⟨hC, RS.refl _⟩, rfl⟩ | exact rfl); simp only [List.nil_append, List.cons_append])
            refine tame_end 103 rfl rfl (fun ρ W hC hr hF => ?_)
            obtain ⟨hrc, hrg, hrf, hrs⟩ := hr
            simp [go_sem] at hF
            apply frame_to
            · go_simp
              exact rfl
            clear hF hrs hrc hrg hrf
            have HEX := Lib.hid hC
            clear hC
            have p1' := p1 _ HEX.out
            have p2' := p2 _ HEX.out
            have p3' := p3 _ HEX.out
            have p4' := p4 _ HEX.out
            clear p1 p2 p3 p4 q0 m0 k0
            go_wp2
            obtain ⟨w9, hw9⟩ : ∃ w9, w9 = W.alloc (.cells #[.int .i64 c0, .int .i64 f0, .int .i64 f1, .int .i64 (f2 + 1)] 167) := ⟨_, rfl⟩
            rw [← hw9]
            have E9 := Lib.hid (show Ext wr w9 from hw9 ▸ (HEX.out.alloc _))
            have HB9 := Lib.hid (show Blk w9 W.heap.size 167 #[.int .i64 c0, .int .i64 f0, .int .i64 f1, .int .i64 (f2 + 1)] from hw9 ▸ Blk.new _ _ _)
            clear hw9 p1' p2' p3' p4'
            have v0 := fun V (h : Ext w9 V) => (HB0.out.ext (E9.out.trans h)).c3.1
            have v1 := fun V (h : Ext w9 V) => (HB0.out.ext (E9.out.trans h)).c3.2.1
            have v2 := fun V (h : Ext w9 V) => (HB0.out.ext (E9.out.trans h)).c3.2.2.1
            have u0 := fun V (h : Ext w9 V) => (HB9.out.ext h).c4.1
            have u1 := fun V (h : Ext w9 V) => (HB9.out.ext h).c4.2.1
            have u2 := fun V (h : Ext w9 V) => (HB9.out.ext h).c4.2.2.1
            have u3 := fun V (h : Ext w9 V) => (HB9.out.ext h).c4.2.2.2.1
            refine wp_region_tame_cut (fun V => Ext w9 V) (RC w9.heap.size pre (3 : Int)) (by kernel_rfl) 103 rfl _ rfl (by decide +kernel) (by decide +kernel) (by decide +kernel) rfl (Ext.refl _).drew ?_
            simp only [List.dropLast]
            repeat (apply tame_q rfl; (intro ρ W hC hr hD; (obtain ⟨hrc, hrg, hrf, hrs⟩ := hr); (simp [go_sem] at hD); go_simp; first | exact ⟨⟨hC, RC.refl _⟩, rfl⟩ | exact rfl); simp only [List.nil_append, List.cons_append])
            apply tame_v rfl (EmptyAt 3 w9.heap.size) (fun v V V' _ hR h => by obtain ⟨bb, h1, h2, h3⟩ := h; exact ⟨bb, h1, h2, hR.2.2.2.2 bb h3⟩)
            · intro ρ V hC hr hD
              obtain ⟨hrc, hrg, hrf, hrs⟩ := hr
              simp [go_sem] at hD
              go_simp
              exact ⟨⟨hC.alloc _, RC.ext (Ext.al _ _)⟩, ⟨_, rfl, hC.size, Blk.new _ _ _⟩⟩
            simp only [List.nil_append, List.cons_append]
            repeat (apply tame_q rfl; (intro ρ W hC hr hD; (obtain ⟨hrc, hrg, hrf, hrs⟩ := hr); (simp [go_sem] at hD); go_simp; first | exact ⟨⟨hC, RC.refl _⟩, rfl⟩ | exact rfl); simp only [List.nil_append, List.cons_append])
            apply tame_v rfl (NewI w9.heap.size pre) (fun v V V' _ hR h => ⟨hR.2.1 v h.1, h.2⟩)
            · intro ρ V hC hr hD
              obtain ⟨hrc, hrg, hrf, hrs⟩ := hr
              simp [go_sem] at hD
              obtain ⟨⟨bb, d1, d2, d3⟩, d4⟩ := hD
              obtain ⟨v', V', hrun, hn, hE⟩ := run_copyI d3 d2 hC.size ((HPQ.out.1.ext E9.out).ext hC) (by have := HPL.out; omega) 27
              show opGives _ _ _ _ _ _ _
              unfold opGives execOp
              simp only [resolve, invoke, builtin, Sem.run_bind, Sem.run_pure, Result.andThen_ok, List.map_toArray, List.map_cons, List.map_nil, d1, d4, hrun]
              exact ⟨⟨hC.trans hE, RC.ext hE⟩, hn⟩
            simp only [List.nil_append, List.cons_append]
            repeat (apply tame_q rfl; (intro ρ W hC hr hD; (obtain ⟨hrc, hrg, hrf, hrs⟩ := hr); (simp [go_sem] at hD); go_simp; first | exact ⟨⟨hC, RC.refl _⟩, rfl⟩ | exact rfl); simp only [List.nil_append, List.cons_append])
            apply tame_v rfl (OneB (3 : Int)) (fun v V V' _ hR h => by obtain ⟨bb, h1, h2⟩ := h; exact ⟨bb, h1, hR.2.2.2.1 bb h2⟩)
            · intro ρ V hC hr hD
              obtain ⟨hrc, hrg, hrf, hrs⟩ := hr
              simp [go_sem] at hD
              go_simp
              exact ⟨⟨hC.alloc _, RC.ext (Ext.al _ _)⟩, ⟨_, rfl, Blk.new _ _ _⟩⟩
            simp only [List.nil_append, List.cons_append]
            apply tame_v rfl (fun v V => Own encI 3 1 V w9.heap.size v (pre ++ [(3 : Int)])) (fun v V V' _ hR h => hR.2.2.1 _ (List.prefix_refl _) v h)
            · intro ρ V hC hr hD
              obtain ⟨hrc, hrg, hrf, hrs⟩ := hr
              simp [go_sem] at hD
              obtain ⟨d1, ⟨bb, d2, d3⟩, -⟩ := hD
              obtain ⟨v', V', hrun, ho, hR, hB⟩ := run_appc (c := 1) d1 hC.size (by have := HPL.out; omega) d3 27
              show opGives _ _ _ _ _ _ _
              unfold opGives execOp
              simp only [resolve, invoke, builtin, Sem.run_bind, Sem.run_pure, Result.andThen_ok, List.map_toArray, List.map_cons, List.map_nil, d2, hrun]
              exact ⟨⟨Below.trans hC hB, hR⟩, ho⟩
            simp only [List.nil_append, List.cons_append]
            repeat (apply tame_q rfl; (intro ρ W hC hr hD; (obtain ⟨hrc, hrg, hrf, hrs⟩ := hr); (simp [go_sem] at hD); go_simp; first | exact ⟨⟨hC, RC.refl _⟩, rfl⟩ | exact rfl); simp only [List.nil_append, List.cons_append])
            refine tame_end 103 rfl rfl (fun ρ V hC hr hF => ?_)
            obtain ⟨hrc, hrg, hrf, hrs⟩ := hr
            simp [go_sem] at hF
            obtain ⟨f90, f91, ⟨b92, f92, -⟩, f93, f94, f95, ⟨b96, f96, -⟩, f97, f98, f99, f100, f101⟩ := hF
            have HC9 := Lib.hid (E9.out.trans hC)
            have hso := SlO.own f97 (show g + 3 ≤ w9.heap.size by have h1 := HG.out; have h2 := E5.out.size; have h3 := HGQ.out.size; have h4 := E9.out.size; omega)
            obtain ⟨A7, n7, c7, e97, -, -, -⟩ := hso.1.form
            rw [e97] at hso
            have HSO := Lib.hid hso
            clear hso f97
            apply frame_to
            · go_simp
              exact rfl
            clear e97 f90 f91 f92 f93 f94 f95 f96 f98 f99 f100 f101 hrs hrc hrg hrf v0 v1 v2 u0 u1 u2 u3 hC
            have HIC := Lib.hid (IH.out (pre ++ [(3 : Int)]) (c0) (f0) (f1) ((f2 + 1)) _ _ V (by rw [List.length_append]; simp; have := HPL.out; omega) (by rw [List.length_append, HPL.out]; exact HFR.out) (by omega) (by rw [List.length_append]; simp; have := HPL.out; have := HCL.out; omega) HCU.out HSO.out ((HML.out.ext E5.out |>.gap HGQ.out).ext HC9.out) (HFQ.out.ext HC9.out) HFO.out (HLQ.out.ext HC9.out))
            have HNX := Lib.hid (show lookL (mOf lt size l) pre y r [f0, f1, f2] s (3 + 1) = lookP (mOf lt size l) (pre ++ [(3 : Int)]) r [f0, f1, (f2 + 1)] (lookL (mOf lt size l) pre y r [f0, f1, f2] s 3) by
              rw [HLS.out 3, HOK.out]; rfl)
            go_wp2_with fail
            refine HIC.out.mono ?_
            rintro e w10 ⟨⟨rv, rfl⟩, hlk, hgp⟩
            have HLK10 := Lib.hid hlk
            have HG10 := Lib.hid (HGQ.out.trans ((Gap.of_ext HC9.out).trans hgp))
            clear hlk hgp
            go_wp2
            go_roundg (lt + 1 - (3 + 1))
            case measure => omega
            case rel => exact ⟨3 + 1, by simp, by omega, by omega, by rw [HNX.out]; exact HLK10.out, HG10.out⟩
    · have hke : k = lt + 1 := by omega
      subst hke
      have hkz : ¬ ((lt : Int) + 1 ≤ (lt : Int)) := by omega
      have k0 := HB0.out.c3.1
      go_wp2
      go_end0
      exact ⟨⟨_, rfl⟩, by rw [HLN.out]; exact HLQ.out, (Gap.of_ext E5.out).trans HGQ.out⟩
end Go.Proofs.YtkpengeaolcjhaaDoor
/- The reference's best, Best, Even. -/
namespace Go.Proofs.YtkpengeaolcjhaaDoor
open Go.RowKit Go.Shelf Go.Lib
set_option maxRecDepth 100000
set_option linter.unusedSimpArgs false

theorem look_any {lt : Nat} {size : Int} {l : List Rc} {sv fv : Value} {g : Nat} (hm : Mok (mOf lt size l)) : ∀ (rest : List Bool), LookC lt size l sv fv g rest
  | [] => look_nil hm
  | _ :: r => look_cons hm (look_any hm r)
theorem lookP_all (m : Mll) : lookP m [] (fitL m) [0, 0, 0] ([], (0, 0), false) = lookB m := by
  unfold lookP lookB plansL
  simp only [List.nil_append]
theorem store2 {wr W : World} {g : Nat} {t : TypeId} {x0 x1 : Value} (hg : wr.grownBy W (some g)) (h : Blk W g t #[x0, x1]) (y0 y1 : Value) :
    CR (fun W => CS wr g t 2 W) (fun W W' => RS g t #[y0, y1] W W') W ((W.setCell ⟨g, 0, none⟩ y0).setCell ⟨g, 1, none⟩ y1) ∧ Blk ((W.setCell ⟨g, 0, none⟩ y0).setCell ⟨g, 1, none⟩ y1) g t #[y0, y1] := by
  have hB := h.set2 y0 y1
  exact ⟨⟨⟨grown_set (grown_set hg (p := ⟨g, 0, none⟩) (.inl rfl) y0) (p := ⟨g, 1, none⟩) (.inl rfl) y1, _, hB, rfl⟩, grown_set (grown_set (World.grownBy.refl _ _) (p := ⟨g, 0, none⟩) (.inl rfl) y0) (p := ⟨g, 1, none⟩) (.inl rfl) y1, fun _ => hB⟩, hB⟩
def bestT (m : Mll) : LkT := lookB m
set_option maxHeartbeats 4000000 in
theorem refBestT_any (lots size : Int) (l : List Rc) (sv : Value) (w : World) (hm : Mok (mOf lots size l)) (hs : MlC w sv l) :
    Calls Tryd.prog 50 #[valM lots size sv] w fun e w' => (∃ v, e = .returned (.tuple #[v, valU (bestT (mOf lots size l)).2.1, .bool (bestT (mOf lots size l)).2.2]) ∧ SlI w' v (bestT (mOf lots size l)).1) ∧ Ext w w' := by
  have HS := Lib.hid hs; have HM := Lib.hid hm
  obtain ⟨A, n, c, rfl, hn, hlc, hcm⟩ := hs.1.form
  obtain ⟨lt, hlt⟩ : ∃ lt : Nat, lots = (lt : Int) := ⟨lots.toNat, by have := hm.l1; show lots = _; have h : 1 ≤ lots := this; omega⟩
  subst hlt
  have hn7 : l.length ≤ 7 := by have h := hm.n7; simp at h; exact h
  have HL := Lib.hid (show l.length = n from hn.out.symm)
  have HLO := Lib.hid (fun fv g => look_any (sv := .slice A n c) (fv := fv) (g := g) hm (fitL (mOf lt size l)))
  have HLL := Lib.hid (lookP_all (mOf lt size l))
  have HFL := Lib.hid (show (fitL (mOf lt size l)).length = l.length by unfold fitL; simp)
  have HS4 := Lib.hid (show 0 ≤ size by have h : 2 ≤ size := hm.s2; omega)
  clear hs hm hn
  go_enter Tryd.func50, Tryd.ntmps50
  go_wp2
  obtain ⟨w5, hw5⟩ : ∃ w5, w5 = (((((w.alloc (.cells #[.int .i64 (lt : Int), .int .i64 size, .slice A n c] 24)).alloc (.cells #[.int .i64 0, .int .i64 0] 95)).alloc (.cells #[.slice none 0 0] 27)).alloc (.cells #[.int .i64 0, .int .i64 0] 95)).alloc (.cells #[.bool false] 4)) := ⟨_, rfl⟩
  rw [← hw5]
  have B0 := Lib.hid (show Blk w5 w.heap.size 24 #[.int .i64 (lt : Int), .int .i64 size, .slice A n c] from hw5 ▸ ((((Blk.new _ _ _).alloc _).alloc _).alloc _).alloc _)
  have B1 := Lib.hid (show Blk w5 (w.heap.size + 1) 95 #[.int .i64 0, .int .i64 0] from hw5 ▸ (((Blk.at_ (by simp)).alloc _).alloc _).alloc _)
  have HLK := Lib.hid (show Lk (w.heap.size + 1 + 1) ([], (0, 0), false) w5 from ⟨⟨_, hw5 ▸ ((Blk.at_ (by simp)).alloc _).alloc _, SlO.nil _ _⟩, hw5 ▸ (Blk.at_ (by simp)).alloc _, hw5 ▸ Blk.at_ (by simp)⟩)
  have E5 := Lib.hid (show Ext w w5 from hw5 ▸ ((((Ext.al _ _).alloc _).alloc _).alloc _).alloc _)
  have hz5 : w5.heap.size = w.heap.size + 5 := by rw [hw5]; simp
  have HZ5 := Lib.hid hz5
  clear hw5 hz5
  have v0 := fun V (h : Ext w5 V) => (B0.out.ext h).c3.1
  have v1 := fun V (h : Ext w5 V) => (B0.out.ext h).c3.2.1
  have v2 := fun V (h : Ext w5 V) => (B0.out.ext h).c3.2.2.1
  refine wp_region_tame_cut (fun V => Ext w5 V) (fun V V' => Ext V V') (by kernel_rfl) 16 rfl _ rfl (by decide +kernel) (by decide +kernel) (by decide +kernel) rfl (Ext.refl _).drew ?_
  simp only [List.dropLast]
  repeat (apply tame_q rfl; (intro ρ W hC hr hD; (obtain ⟨hrc, hrg, hrf, hrs⟩ := hr); (simp [go_sem] at hD); go_simp; first | exact ⟨⟨hC, Ext.refl _⟩, rfl⟩ | exact ⟨⟨hC, RS.refl _⟩, rfl⟩ | exact rfl); simp only [List.nil_append, List.cons_append])
  apply tame_v rfl (fun v V => Own encBo 4 1 V w5.heap.size v (fitL (mOf lt size l))) (fun v V V' _ hE h => h.ext hE)
  · intro ρ V hC hr hD
    obtain ⟨hrc, hrg, hrf, hrs⟩ := hr
    simp [go_sem] at hD
    go_simp
    refine (fits_any lt size l _ _ (HS.out.ext (E5.out.trans hC)) (by omega)).mono ?_
    rintro e w' ⟨⟨v', rfl, ho⟩, hE⟩
    exact ⟨_, rfl, ⟨hC.trans hE, hE⟩, ho.mono hC.size⟩
  simp only [List.nil_append, List.cons_append]
  repeat (apply tame_q rfl; (intro ρ W hC hr hD; (obtain ⟨hrc, hrg, hrf, hrs⟩ := hr); (simp [go_sem] at hD); go_simp; first | exact ⟨⟨hC, Ext.refl _⟩, rfl⟩ | exact ⟨⟨hC, RS.refl _⟩, rfl⟩ | exact rfl); simp only [List.nil_append, List.cons_append])
  refine tame_end 16 rfl rfl (fun ρ V hC hr hF => ?_)
  obtain ⟨hrc, hrg, hrf, hrs⟩ := hr
  simp [go_sem] at hF
  obtain ⟨f8, f9, f10, f11⟩ := hF
  have hfs : SlBo V (ρ (.tmp 10)) (fitL (mOf lt size l)) := f10.sl (fun _ => rfl)
  have hfo : ∀ b o n c, ρ (.tmp 10) = .slice (some ⟨b, o, none⟩) n c → 0 < l.length → w.heap.size + 1 + 1 + 3 ≤ b := by
    intro b o n c e h0
    rcases own_formG f10 with ⟨-, h1⟩ | ⟨g', cap, cur, h1, h3, -⟩
    · have h2 := HFL.out; rw [h1] at h2; simp at h2; omega
    · rw [e] at h1; injection h1 with h1; injection h1 with h1; injection h1 with h1; have := HZ5.out; omega
  obtain ⟨A7, n7, c7, e10, -, -, -⟩ := hfs.form
  rw [e10] at hfs hfo
  have HFS := Lib.hid hfs; have HFO := Lib.hid hfo
  apply frame_to
  · go_simp
    exact rfl
  have HC := Lib.hid hC
  clear f8 f9 f10 f11 e10 hrs hrc hrg hrf v0 v1 v2 hC hfs hfo
  have HIC := Lib.hid (HLO.out _ (w.heap.size + 1 + 1) [] 0 0 0 0 _ ([], (0, 0), false) V (by rw [HFL.out]; simp) (by simp) (by omega) (by simp) ⟨⟨by omega, HS4.out, by omega, HS4.out, by omega, HS4.out⟩, fun _ => rfl, fun _ => rfl⟩ (SlO.nil _ _) ((((MlO.of HS.out).mono (by omega)).ext E5.out).ext HC.out) HFS.out HFO.out (HLK.out.ext HC.out))
  go_wp2_with fail
  refine HIC.out.mono ?_
  rintro e w6 ⟨⟨rv, rfl⟩, hlk, hgp⟩
  rw [HLL.out] at hlk
  have HLK6 := Lib.hid (show Lk (w.heap.size + 1 + 1) (bestT (mOf lt size l)) w6 from hlk)
  have HE6 := Lib.hid (show Ext w w6 from hgp.ext (E5.out.trans HC.out) (by omega))
  have HB6 := Lib.hid (hgp.blk (B1.out.ext HC.out) (.inl (by omega)))
  clear hlk hgp
  obtain ⟨⟨T1, ⟨T2, T3⟩, T4⟩, hT⟩ : ∃ T, bestT (mOf lt size l) = T := ⟨_, rfl⟩
  have HT := Lib.hid hT
  rw [hT] at HLK6
  clear hT
  obtain ⟨vb, hvb, hso⟩ := HLK6.out.best
  obtain ⟨A8, n8, c8, rfl, -, -, -⟩ := hso.1.form
  have HSO := Lib.hid hso
  have a0 := hvb.c1.1
  have al := hvb.c1.2.2
  have b0 := HLK6.out.even.c2.1
  have b1 := HLK6.out.even.c2.2.1
  have d0 := HLK6.out.found.c1.1
  have hl1 := HLK6.out.even.lt
  have hl2 := HLK6.out.found.lt
  have q0 := fun W (h : CS w6 (w.heap.size + 1) 95 2 W) => (h.cell (b := w.heap.size + 1 + 1) (by omega) (by omega) 0).trans a0
  have q1 := fun W (h : CS w6 (w.heap.size + 1) 95 2 W) => (h.cell (b := w.heap.size + 1 + 1 + 1) hl1 (by omega) 0).trans b0
  have q2 := fun W (h : CS w6 (w.heap.size + 1) 95 2 W) => (h.cell (b := w.heap.size + 1 + 1 + 1) hl1 (by omega) 1).trans b1
  have q3 := fun W (h : CS w6 (w.heap.size + 1) 95 2 W) => (h.cell (b := w.heap.size + 1 + 1 + 1 + 1) hl2 (by omega) 0).trans d0
  have HST := Lib.hid (CS.start HB6.out)
  clear a0 b0 b1 d0 hvb hso
  dsimp only at q1 q2 q3
  go_wp2_with fail
  refine wp_region_tame (fun W => CS w6 (w.heap.size + 1) 95 2 W) (fun W W' => RS (w.heap.size + 1) 95 #[.int .i64 T2, .int .i64 T3] W W') (by kernel_rfl) 16 rfl (by decide +kernel) HST.out ?_
  repeat (apply tame_q rfl; (intro ρ W hC hr hD; (obtain ⟨hrc, hrg, hrf, hrs⟩ := hr); (simp [go_sem] at hD); go_simp; first | exact ⟨⟨hC, RS.refl _⟩, rfl⟩ | exact rfl); simp only [List.nil_append, List.cons_append])
  apply tame_n (fun _ W => Blk W (w.heap.size + 1) 95 #[.int .i64 T2, .int .i64 T3]) (fun _ W W' _ hR h => hR.2 h)
  · intro ρ W hC hr hD
    obtain ⟨hrc, hrg, hrf, hrs⟩ := hr
    simp [go_sem] at hD
    obtain ⟨hg1, cs0, hB, hsz⟩ := hC
    obtain ⟨cs0⟩ := cs0
    obtain ⟨x0, x1, rfl⟩ : ∃ x0 x1, cs0 = [x0, x1] := by
      match cs0, hsz with
      | [x0, x1], _ => exact ⟨_, _, rfl⟩
    obtain ⟨b0, b1, bf, bl⟩ := hB.c2
    have HB := Lib.hid hB; have HG1 := Lib.hid hg1; clear hB hg1
    go_simp
    exact store2 HG1.out HB.out _ _
  simp only [List.nil_append, List.cons_append]
  repeat (apply tame_q rfl; (intro ρ W hC hr hD; (obtain ⟨hrc, hrg, hrf, hrs⟩ := hr); (simp [go_sem] at hD); go_simp; first | exact ⟨⟨hC, RS.refl _⟩, rfl⟩ | exact rfl); simp only [List.nil_append, List.cons_append])
  refine tame_end 16 rfl rfl (fun ρ W hC hr hF => ?_)
  obtain ⟨hrc, hrg, hrf, hrs⟩ := hr
  simp [go_sem] at hF
  obtain ⟨f13, f14, f15, f2, S0, f4⟩ := hF
  have HS0 := Lib.hid S0
  apply frame_to
  · go_simp
    exact rfl
  have HGW := Lib.hid hC.1
  clear f13 f14 f15 f2 S0 f4 hC hrs hrc hrg hrf q0 q1 q2 q3
  obtain ⟨b0, b1, -, -⟩ := HS0.out.c2
  have HSW := Lib.hid (HSO.out.1.grownG HGW.out (fun h0 b o e h => by have := HSO.out.2 b o n8 c8 (by rw [e]) h0; omega))
  iterate 6 go_wp21
  refine bodyPost_ret (v := .tuple #[.slice A8 n8 c8, valU (T2, T3), .bool T4]) (by simp [results, Tryd.results50, go_sem, b0, b1]) rfl ?_
  exact ⟨⟨_, by rw [HT.out], by rw [HT.out]; exact HSW.out⟩, ext_grown HE6.out HGW.out (by omega)⟩
end Go.Proofs.YtkpengeaolcjhaaDoor
