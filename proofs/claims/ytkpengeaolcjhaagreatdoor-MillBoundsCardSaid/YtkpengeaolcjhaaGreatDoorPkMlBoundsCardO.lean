/- slices.Clone at draws and weighings; core.copied. -/
import Derived.Test.YtkpengeaolcjhaaGreatDoorPkMlBoundsCardN
import Derived.Test.YtkpengeaolcjhaaGreatDoorPkMlBoundsCardF
import Derived.Test.YtkpengeaolcjhaaGreatDoorPkMlBoundsCardH
import Derived.Test.YtkpengeaolcjhaaGreatDoorPkMlBoundsCardI
import Derived.Test.YtkpengeaolcjhaaGreatDoorPkMlBoundsCardE
import Derived.RangeFuncBound
import Derived.OwnWalkIn
import Derived.TacticsInMore
import Derived.Test.YtkpengeaolcjhaaGreatDoorPkMlBoundsCardD
import Derived.Test.YtkpengeaolcjhaaGreatDoorPkMlBoundsCardM
namespace Go.Proofs.YtkpengeaolcjhaaGreatDoor
open Go.RowKit Go.Shelf Go.Lib
set_option maxRecDepth 100000
set_option linter.unusedSimpArgs false

@[go_sem] theorem eql58nil (w : World) (a : Option Addr) (n c : Nat) : (binOp .eql 58 (.slice a n c) (.slice none 0 0)).run Tryz.prog w = .ok (.bool a.isNone) w := Lib.run_eql_slice_nil w 58 134 a n c 0 0 Tryz.underlying58
theorem wpList_copyD {ops : Array Oper} {rest : List Oper} {o : Oper} {a : Act} {Q : Exit → Act → World → Prop} {W : World} (hgd : o.guard = none) (s x : Operand)
    (ho : o.op = .call { callee := .builtin .append, args := #[s, x], argTypes := #[58, 58] }) {base g : Nat} (hs : a.eval s = .slice (some ⟨g, 0, none⟩) 0 0) {v : Value} (hx : a.eval x = v)
    (hB : Blk W g 134 #[]) (hg : base ≤ g) (hW : base ≤ W.heap.size) {l : List Draw} (hl : SlD W v l) (hlen : l.length ≤ 1000)
    (h : ∀ v' W', Own encD 134 4 W' base v' l → Ext W W' → wpList Tryz.prog ops Q rest (a.put o.dst v') W') : wpList Tryz.prog ops Q (o :: rest) a W := by
  obtain ⟨v', W', hr, h1, h2⟩ := run_copy (t := 58) (ty := o.type) (enc := encD) (sz := 4) Tryz.underlying58 info134x rfl (by decide) (by decide) (fun _ => rfl) hB hg hW hl hlen
  refine wpList_plain hgd fun K hK => ?_
  unfold Oper.wp execOp
  simp only [ho, resolve, invoke, builtin, Sem.run_bind, Sem.run_pure, Result.andThen_ok, List.map_toArray, List.map_cons, List.map_nil, hs, hx, hr]
  exact hK _ _ (h v' W' h1 h2)
theorem cloneD_any (v : Value) (l : List Draw) (w : World) (hs : SlD w v l) (hlen : l.length ≤ 1000) :
    Calls Tryz.prog 115 #[v] w fun e w' => ∃ v', e = .returned v' ∧ Own encD 134 4 w' w.heap.size v' l ∧ Ext w w' := by
  have HS := Lib.hid hs
  have HL := Lib.hid hlen
  obtain ⟨A, n, c, rfl, hn, hlc, hcm⟩ := hs.form
  have HN := Lib.hid (show A.isNone = true → l = [] ∧ n = 0 from fun h => by
    obtain ⟨A', c', hv, _, _, hx⟩ := hs
    injection hv with e1 e2 e3
    subst e1 e3
    have hl0 : l = [] := by
      by_cases h0 : 0 < l.length
      · obtain ⟨_, _, h1, _⟩ := hx h0; rw [h1] at h; cases h
      · exact List.eq_nil_of_length_eq_zero (by omega)
    exact ⟨hl0, by rw [e2, hl0]; rfl⟩)
  clear hs hlen hn hlc hcm
  cases hN : A.isNone with
  | true =>
    obtain ⟨rfl, rfl⟩ := HN.out hN
    clear HS HL HN
    go_enter Tryz.func115, Tryz.ntmps115
    go_wp2
    go_ret
    exact ⟨_, rfl, Own.nil _ _, Ext.refl _⟩
  | false =>
    clear HN
    go_enter Tryz.func115, Tryz.ntmps115
    go_wp2_with (at_builtin; refine wpList_copyD rfl (.tmp 5) (.tmp 6) rfl (base := w.heap.size) (g := w.heap.size) rfl rfl (Blk.new _ _ _) (Nat.le_refl _) (by simp) (HS.out.ext (Ext.al _ _)) HL.out ?_)
    intro v1 w1 hown hext
    have HE := Lib.hid (show Ext w w1 from (Ext.al _ _).trans hext)
    go_wp2
    go_ret
    exact ⟨_, rfl, hown, HE.out⟩
@[go_sem] theorem eql59nil (w : World) (a : Option Addr) (n c : Nat) : (binOp .eql 59 (.slice a n c) (.slice none 0 0)).run Tryz.prog w = .ok (.bool a.isNone) w := Lib.run_eql_slice_nil w 59 186 a n c 0 0 Tryz.underlying59
theorem wpList_copyW {ops : Array Oper} {rest : List Oper} {o : Oper} {a : Act} {Q : Exit → Act → World → Prop} {W : World} (hgd : o.guard = none) (s x : Operand)
    (ho : o.op = .call { callee := .builtin .append, args := #[s, x], argTypes := #[59, 59] }) {base g : Nat} (hs : a.eval s = .slice (some ⟨g, 0, none⟩) 0 0) {v : Value} (hx : a.eval x = v)
    (hB : Blk W g 186 #[]) (hg : base ≤ g) (hW : base ≤ W.heap.size) {l : List Weigh} (hl : SlW W v l) (hlen : l.length ≤ 1000)
    (h : ∀ v' W', Own encW 186 4 W' base v' l → Ext W W' → wpList Tryz.prog ops Q rest (a.put o.dst v') W') : wpList Tryz.prog ops Q (o :: rest) a W := by
  obtain ⟨v', W', hr, h1, h2⟩ := run_copy (t := 59) (ty := o.type) (enc := encW) (sz := 4) Tryz.underlying59 info186x rfl (by decide) (by decide) (fun _ => rfl) hB hg hW hl hlen
  refine wpList_plain hgd fun K hK => ?_
  unfold Oper.wp execOp
  simp only [ho, resolve, invoke, builtin, Sem.run_bind, Sem.run_pure, Result.andThen_ok, List.map_toArray, List.map_cons, List.map_nil, hs, hx, hr]
  exact hK _ _ (h v' W' h1 h2)
theorem cloneW_any (v : Value) (l : List Weigh) (w : World) (hs : SlW w v l) (hlen : l.length ≤ 1000) :
    Calls Tryz.prog 116 #[v] w fun e w' => ∃ v', e = .returned v' ∧ Own encW 186 4 w' w.heap.size v' l ∧ Ext w w' := by
  have HS := Lib.hid hs
  have HL := Lib.hid hlen
  obtain ⟨A, n, c, rfl, hn, hlc, hcm⟩ := hs.form
  have HN := Lib.hid (show A.isNone = true → l = [] ∧ n = 0 from fun h => by
    obtain ⟨A', c', hv, _, _, hx⟩ := hs
    injection hv with e1 e2 e3
    subst e1 e3
    have hl0 : l = [] := by
      by_cases h0 : 0 < l.length
      · obtain ⟨_, _, h1, _⟩ := hx h0; rw [h1] at h; cases h
      · exact List.eq_nil_of_length_eq_zero (by omega)
    exact ⟨hl0, by rw [e2, hl0]; rfl⟩)
  clear hs hlen hn hlc hcm
  cases hN : A.isNone with
  | true =>
    obtain ⟨rfl, rfl⟩ := HN.out hN
    clear HS HL HN
    go_enter Tryz.func116, Tryz.ntmps116
    go_wp2
    go_ret
    exact ⟨_, rfl, Own.nil _ _, Ext.refl _⟩
  | false =>
    clear HN
    go_enter Tryz.func116, Tryz.ntmps116
    go_wp2_with (at_builtin; refine wpList_copyW rfl (.tmp 5) (.tmp 6) rfl (base := w.heap.size) (g := w.heap.size) rfl rfl (Blk.new _ _ _) (Nat.le_refl _) (by simp) (HS.out.ext (Ext.al _ _)) HL.out ?_)
    intro v1 w1 hown hext
    have HE := Lib.hid (show Ext w w1 from (Ext.al _ _).trans hext)
    go_wp2
    go_ret
    exact ⟨_, rfl, hown, HE.out⟩

/-- A slice that does not lie in block g. -/
def GoodS {α : Type} (enc : α → List Value) (g : Nat) (l : List α) (v : Value) (W : World) : Prop := Sl enc 4 W v l ∧ ∀ a n c b o, v = .slice a n c → a = some ⟨b, o, none⟩ → 0 < l.length → b ≠ g
theorem GoodS.ext {α : Type} {enc : α → List Value} {g : Nat} {l : List α} {v : Value} {W W' : World} (h : GoodS enc g l v W) (e : Ext W W') : GoodS enc g l v W' := ⟨h.1.ext e, h.2⟩
theorem GoodS.set {α : Type} {enc : α → List Value} {g i : Nat} {l : List α} {v : Value} {W : World} (h : GoodS enc g l v W) (u : Value) : GoodS enc g l v (W.setCell ⟨g, i, none⟩ u) := by
  obtain ⟨⟨a, c, hv, hl, hc, hx⟩, hf⟩ := h
  refine ⟨⟨a, c, hv, hl, hc, fun h0 => ?_⟩, hf⟩
  obtain ⟨b, off, hA, hb, hcell⟩ := hx h0
  exact ⟨b, off, hA, by simpa [World.setCell] using hb, fun k x hk j w hw => (World.cell?_of_block (a := ⟨b, _, none⟩) (Below.heap_setCell W ⟨g, i, none⟩ u b (hf a _ c b off hv hA h0))).trans (hcell k x hk j w hw)⟩
theorem GoodS.own {α : Type} {enc : α → List Value} {g base : Nat} {e : TypeId} {l : List α} {v : Value} {W : World} (henc : ∀ x, (enc x).length = 4) (h : Own enc e 4 W base v l) (hg : g < base) : GoodS enc g l v W := by
  refine ⟨Own.sl henc h, fun a n c b o hv ha _ => ?_⟩
  rcases h.2 with ⟨h2, _⟩ | ⟨g', cap', cur, e1, hb, _⟩
  · rw [hv] at h2; injection h2 with h2; rw [ha] at h2; cases h2
  · rw [hv] at e1; injection e1 with e1; rw [ha] at e1; injection e1 with e1; injection e1 with e1; omega
theorem GoodS.old {α : Type} {enc : α → List Value} {g : Nat} {l : List α} {v : Value} {w W : World} (h : Sl enc 4 w v l) (hg : w.heap.size ≤ g) (e : Ext w W) : GoodS enc g l v W := by
  refine ⟨h.ext e, fun a n c b o hv ha h0 => ?_⟩
  obtain ⟨a', c', hv', _, _, hx⟩ := h
  obtain ⟨b', off, hA, hb, _⟩ := hx h0
  rw [hv'] at hv
  injection hv with hv
  rw [← hv, hA] at ha
  injection ha with ha
  injection ha with ha
  omega
/-- Cell i of block g holds a fresh slice of l. -/
def FrC {α : Type} (enc : α → List Value) (e : TypeId) (base g i : Nat) (l : List α) (W : World) : Prop := ∃ v, W.cell? ⟨g, i, none⟩ = some v ∧ Own enc e 4 W base v l
theorem FrC.ext {α : Type} {enc : α → List Value} {e : TypeId} {base g i : Nat} {l : List α} {W W' : World} (h : FrC enc e base g i l W) (hE : Ext W W') : FrC enc e base g i l W' := by
  obtain ⟨v, h1, h2⟩ := h
  exact ⟨v, (hE.cells.1 _ _ (is_cells h1).1).trans h1, h2.ext hE⟩
def RD (b : Bale) (base g : Nat) (W W' : World) : Prop :=
  (∀ v, GoodS encD g b.draws v W → GoodS encD g b.draws v W') ∧ (∀ v, GoodS encW g b.weighs v W → GoodS encW g b.weighs v W') ∧ (∀ v, Own encD 134 4 W base v b.draws → Own encD 134 4 W' base v b.draws) ∧ (∀ v, Own encW 186 4 W base v b.weighs → Own encW 186 4 W' base v b.weighs) ∧
    (FrC encD 134 base g 4 b.draws W → FrC encD 134 base g 4 b.draws W') ∧ (FrC encW 186 base g 5 b.weighs W → FrC encW 186 base g 5 b.weighs W')
theorem RD.refl {b : Bale} {base g : Nat} (W : World) : RD b base g W W := ⟨fun _ h => h, fun _ h => h, fun _ h => h, fun _ h => h, fun h => h, fun h => h⟩
theorem RD.ext {b : Bale} {base g : Nat} {W W' : World} (e : Ext W W') : RD b base g W W' := ⟨fun _ h => h.ext e, fun _ h => h.ext e, fun _ h => h.ext e, fun _ h => h.ext e, fun h => h.ext e, fun h => h.ext e⟩
theorem RD.set4 {b : Bale} {base g : Nat} {W : World} {dx : Value} (hg : g < base) (hd : Own encD 134 4 W base dx b.draws) : RD b base g W (W.setCell ⟨g, 4, none⟩ dx) ∧ ((∃ u, W.cell? ⟨g, 4, none⟩ = some u) → FrC encD 134 base g 4 b.draws (W.setCell ⟨g, 4, none⟩ dx)) :=
  have key : (∃ u, W.cell? ⟨g, 4, none⟩ = some u) → FrC encD 134 base g 4 b.draws (W.setCell ⟨g, 4, none⟩ dx) := fun ⟨_, hu⟩ => ⟨dx, World.cell?_setCell_same (h := hu) .., hd.far hg _⟩
  ⟨⟨fun _ h => h.set _, fun _ h => h.set _, fun _ h => h.far hg _, fun _ h => h.far hg _, fun ⟨u, hu, _⟩ => key ⟨u, hu⟩, fun ⟨v, h1, h2⟩ => ⟨v, (World.cell?_setCell_other (h := by intro e; injection e with _ e _; omega) ..).trans h1, h2.far hg _⟩⟩, key⟩
theorem RD.set5 {b : Bale} {base g : Nat} {W : World} {wx : Value} (hg : g < base) (hd : Own encW 186 4 W base wx b.weighs) : RD b base g W (W.setCell ⟨g, 5, none⟩ wx) ∧ ((∃ u, W.cell? ⟨g, 5, none⟩ = some u) → FrC encW 186 base g 5 b.weighs (W.setCell ⟨g, 5, none⟩ wx)) :=
  have key : (∃ u, W.cell? ⟨g, 5, none⟩ = some u) → FrC encW 186 base g 5 b.weighs (W.setCell ⟨g, 5, none⟩ wx) := fun ⟨_, hu⟩ => ⟨wx, World.cell?_setCell_same (h := hu) .., hd.far hg _⟩
  ⟨⟨fun _ h => h.set _, fun _ h => h.set _, fun _ h => h.far hg _, fun _ h => h.far hg _, fun ⟨v, h1, h2⟩ => ⟨v, (World.cell?_setCell_other (h := by intro e; injection e with _ e _; omega) ..).trans h1, h2.far hg _⟩, fun ⟨u, hu, _⟩ => key ⟨u, hu⟩⟩, key⟩
/-- The world while a bale is copied: but for block g nothing has turned, and block g is the bale's. -/
def CD (b : Bale) (w : World) (g : Nat) (W : World) : Prop := w.grownBy W (some g) ∧ ∃ dx wx, Blk W g 61 #[.int .i64 b.id, .int .i64 b.layers, .int .i64 b.dry.lo, .int .i64 b.dry.hi, dx, wx] ∧ GoodS encD g b.draws dx W ∧ GoodS encW g b.weighs wx W
theorem CD.ext {b : Bale} {w : World} {g : Nat} {W W' : World} (h : CD b w g W) (e : Ext W W') : CD b w g W' := by
  obtain ⟨h1, dx, wx, h2, h3, h4⟩ := h
  exact ⟨grown_ext h1 e, dx, wx, h2.ext e, h3.ext e, h4.ext e⟩

end Go.Proofs.YtkpengeaolcjhaaGreatDoor
/- core.without: a bale without some draws and weighings. -/
namespace Go.Proofs.YtkpengeaolcjhaaGreatDoor
open Go.RowKit Go.Shelf Go.Lib
set_option maxRecDepth 100000
set_option linter.unusedSimpArgs false

theorem contains_any (l : List Int) (v : Value) (x : Int) (w : World) (hs : SlI w v l) :
    Calls Tryz.prog 114 #[v, .int .i64 x] w fun e w' => e = .returned (.bool (l.any fun y => decide (x = y))) ∧ Ext w w' := by
  have HS := Lib.hid hs
  obtain ⟨A, n, c, rfl, hn, hlc, hcm⟩ := hs.form
  have HI := Lib.hid (f84_any l x _ w HS.out)
  clear hs
  go_enter Tryz.func114, Tryz.ntmps114
  go_wp2_with fail
  refine HI.out.mono ?_
  rintro e w1 ⟨rfl, hE⟩
  have HE := Lib.hid hE; clear hE
  go_wp2
  go_ret
  exact ⟨ret_bool (idxF_any _ l), HE.out⟩

theorem own_heap {α : Type} {enc : α → List Value} {sz base : Nat} {e : TypeId} {w : World} {v : Value} {l : List α} (h : Own enc e sz w base v l) : ∀ g, v.ownBlock = some g → ∃ cur, w.heap[g]? = some (.cells cur e (0, 0)) := by
  intro g hg
  rcases h.2 with ⟨rfl, _⟩ | ⟨g', cap, cur, rfl, hb, hh, _⟩
  · cases hg
  · simp [Value.ownBlock] at hg
    subst hg
    exact ⟨cur, hh⟩
theorem own_apart {α β : Type} {enc : α → List Value} {enc' : β → List Value} {sz sz' base base' : Nat} {e e' : TypeId} {w w' : World} {v v' : Value} {l : List α} {l' : List β} (h : Own enc e sz w base v l) (h' : Own enc' e' sz' w base' v' l') (hne : e ≠ e') (hg : w.grownBy w' v'.ownBlock) : Own enc e sz w' base v l := by
  refine World.ownsRow.kept h hg ?_
  cases hv : v.ownBlock with
  | none => exact .inl rfl
  | some g =>
    refine .inr fun e1 => ?_
    obtain ⟨cur, h1⟩ := own_heap h g hv
    obtain ⟨cur', h2⟩ := own_heap h' g e1.symm
    rw [h1] at h2
    injection h2 with h2
    injection h2 with _ h2 _
    exact hne h2
theorem own_below {α : Type} {enc : α → List Value} {sz base : Nat} {e : TypeId} {w w' : World} {v : Value} {l : List α} (h : Own enc e sz w base v l) (hb : base ≤ w.heap.size) (hg : w.grownBy w' v.ownBlock) : Below base w w' :=
  (Below.refl base w).grown hg hb (fun k hk => (World.ownsRow.lt h k hk).1)
theorem own_set {α : Type} {enc : α → List Value} {sz base g i : Nat} {e : TypeId} {w : World} {v u : Value} {l : List α} (h : Own enc e sz w base v l) (hg : g < base) : Own enc e sz (w.setCell ⟨g, i, none⟩ u) base v l := h.far hg u
def withB (b : Bale) (l k : List Int) : Bale := ⟨b.id, b.layers, b.dry, b.draws.filter fun x => !(l.any fun y => decide (x.number = y)), b.weighs.filter fun x => !(k.any fun y => decide (x.number = y))⟩

end Go.Proofs.YtkpengeaolcjhaaGreatDoor
/- Memory that a call makes itself; a range over a function; frames of which some slots are known: for the mill, beside core's texts (printed by genmlfr.py). -/
namespace Go.Proofs.YtkpengeaolcjhaaGreatDoor
open Go.RowKit Go.Shelf Go.Lib
set_option maxRecDepth 100000
set_option linter.unusedSimpArgs false


theorem Ext.cell1 {W W' : World} (h : Ext W W') {b i : Nat} {v : Value} (hc : W.cell? ⟨b, i, none⟩ = some v) : W'.cell? ⟨b, i, none⟩ = some v := (h.cells.1 b i (is_cells hc).1).trans hc
section
variable {w : World} {g : Nat} {t : TypeId} {a b c d e : Value}
theorem Blk.c1 (h : Blk w g t #[a]) : w.cell? ⟨g, 0, none⟩ = some a ∧ (∀ i, w.frozen? ⟨g, i, none⟩ = false) ∧ g < w.heap.size := ⟨by simpa using h.cell 0, h.frozen, h.lt⟩
theorem Blk.c2 (h : Blk w g t #[a, b]) : w.cell? ⟨g, 0, none⟩ = some a ∧ w.cell? ⟨g, 1, none⟩ = some b ∧ (∀ i, w.frozen? ⟨g, i, none⟩ = false) ∧ g < w.heap.size := ⟨by simpa using h.cell 0, by simpa using h.cell 1, h.frozen, h.lt⟩
theorem Blk.c3 (h : Blk w g t #[a, b, c]) : w.cell? ⟨g, 0, none⟩ = some a ∧ w.cell? ⟨g, 1, none⟩ = some b ∧ w.cell? ⟨g, 2, none⟩ = some c ∧ (∀ i, w.frozen? ⟨g, i, none⟩ = false) ∧ g < w.heap.size := ⟨by simpa using h.cell 0, by simpa using h.cell 1, by simpa using h.cell 2, h.frozen, h.lt⟩
theorem Blk.c4 (h : Blk w g t #[a, b, c, d]) : w.cell? ⟨g, 0, none⟩ = some a ∧ w.cell? ⟨g, 1, none⟩ = some b ∧ w.cell? ⟨g, 2, none⟩ = some c ∧ w.cell? ⟨g, 3, none⟩ = some d ∧ (∀ i, w.frozen? ⟨g, i, none⟩ = false) ∧ g < w.heap.size := ⟨by simpa using h.cell 0, by simpa using h.cell 1, by simpa using h.cell 2, by simpa using h.cell 3, h.frozen, h.lt⟩
theorem Blk.c5 (h : Blk w g t #[a, b, c, d, e]) : w.cell? ⟨g, 0, none⟩ = some a ∧ w.cell? ⟨g, 1, none⟩ = some b ∧ w.cell? ⟨g, 2, none⟩ = some c ∧ w.cell? ⟨g, 3, none⟩ = some d ∧ w.cell? ⟨g, 4, none⟩ = some e ∧ (∀ i, w.frozen? ⟨g, i, none⟩ = false) ∧ g < w.heap.size := ⟨by simpa using h.cell 0, by simpa using h.cell 1, by simpa using h.cell 2, by simpa using h.cell 3, by simpa using h.cell 4, h.frozen, h.lt⟩
end
/-- .. for every later world. -/
def Later (w : World) (P : World → Prop) : Prop := ∀ W, Ext w W → P W

theorem row_frozen {w : World} {base g n cap sz : Nat} {e : TypeId} {xs : List Value} (h : w.ownsRow base e sz (.slice (some ⟨g, 0, none⟩) n cap) n xs) (k : Nat) : w.frozen? ⟨g, k, none⟩ = false := by
  rcases h.2 with ⟨h2, _⟩ | ⟨g', cap', cur, e1, hb, hh, _⟩
  · cases h2
  · injection e1 with e1 _ _
    injection e1 with e1
    injection e1 with e1 _ _
    subst e1
    simp [World.frozen?, hh]
theorem row_cell {w : World} {base g n cap : Nat} {e : TypeId} {xs : List Value} (h : w.ownsRow base e 4 (.slice (some ⟨g, 0, none⟩) n cap) n xs) {j i : Nat} (hj : j < n) (hi : i < 4) : ∃ u, w.cell? ⟨g, j * 4 + i, none⟩ = some u := by
  have hl : j * 4 + i < xs.length := by rw [h.1]; omega
  refine ⟨xs[j * 4 + i], ?_⟩
  have := World.ownsRow.cells h (g := g) rfl (j * 4 + i) _ (List.getElem?_eq_getElem hl)
  simpa [Addr.add_lit] using this

/-- Nothing old has turned outside the blocks from lo on below hi. -/
structure Gap (lo hi : Nat) (w w' : World) : Prop where
  os : w'.os = w.os
  tape : w'.tape = w.tape
  output : w'.output = w.output
  size : w.heap.size ≤ w'.heap.size
  block : ∀ k, k < w.heap.size → (k < lo ∨ hi ≤ k) → w'.heap[k]? = w.heap[k]?
theorem Gap.refl (lo hi : Nat) (w : World) : Gap lo hi w w := ⟨rfl, rfl, rfl, Nat.le_refl _, fun _ _ _ => rfl⟩
theorem Gap.trans {lo hi : Nat} {a b c : World} (h : Gap lo hi a b) (k : Gap lo hi b c) : Gap lo hi a c :=
  ⟨k.os.trans h.os, k.tape.trans h.tape, k.output.trans h.output, Nat.le_trans h.size k.size, fun i hi hb => (k.block i (Nat.lt_of_lt_of_le hi h.size) hb).trans (h.block i hi hb)⟩
theorem Gap.of_ext {lo hi : Nat} {a b : World} (h : Ext a b) : Gap lo hi a b := ⟨h.os, h.tape, h.output, h.size, fun i hi _ => h.block i hi⟩
theorem Gap.setCell {lo hi : Nat} {a b : World} (h : Gap lo hi a b) {p : Addr} (h1 : lo ≤ p.block) (h2 : p.block < hi) (u : Value) : Gap lo hi a (b.setCell p u) :=
  ⟨h.os, h.tape, h.output, by simpa [World.setCell] using h.size, fun i hi hb => (Below.heap_setCell b p u i (by rintro rfl; omega)).trans (h.block i hi hb)⟩
theorem Gap.ext {lo hi : Nat} {w a b : World} (h : Gap lo hi a b) (e : Ext w a) (hl : w.heap.size ≤ lo) : Ext w b :=
  ⟨h.os.trans e.os, h.tape.trans e.tape, h.output.trans e.output, Nat.le_trans e.size h.size, fun i hi => (h.block i (Nat.lt_of_lt_of_le hi e.size) (.inl (by omega))).trans (e.block i hi)⟩
theorem Gap.blk {lo hi g : Nat} {a b : World} {t : TypeId} {cs : Array Value} (h : Gap lo hi a b) (hB : Blk a g t cs) (hg : g < lo ∨ hi ≤ g) : Blk b g t cs := (h.block g hB.lt hg).trans hB
theorem Gap.own {α : Type} {enc : α → List Value} {sz base lo hi : Nat} {e : TypeId} {a b : World} {v : Value} {l : List α} (h : Gap lo hi a b) (ho : Own enc e sz a base v l) (hb : hi ≤ base) : Own enc e sz b base v l := by
  obtain ⟨h1, h2⟩ := ho
  refine ⟨h1, ?_⟩
  rcases h2 with h2 | ⟨r, cap, cur, hv, hr, hh, rest⟩
  · exact Or.inl h2
  · exact Or.inr ⟨r, cap, cur, hv, hr, (h.block r (Array.getElem?_eq_some_iff.1 hh).1 (.inr (by omega))).trans hh, rest⟩
theorem own_top {α : Type} {enc : α → List Value} {sz base : Nat} {e : TypeId} {w : World} {v : Value} {l : List α} (h : Own enc e sz w base v l) : ∀ g, v.ownBlock = some g → g < w.heap.size := fun g hg => by
  obtain ⟨cur, hh⟩ := own_heap h g hg
  exact (Array.getElem?_eq_some_iff.1 hh).1


theorem own_formG {α : Type} {enc : α → List Value} {sz : Nat} {e : TypeId} {W : World} {base : Nat} {v : Value} {l : List α} (h : Own enc e sz W base v l) : (v = .slice none 0 0 ∧ l = []) ∨ ∃ g cap cur, v = .slice (some ⟨g, 0, none⟩) l.length cap ∧ base ≤ g ∧ W.heap[g]? = some (.cells cur e (0, 0)) ∧ l.length ≤ cap ∧ cap ≤ maxLen ∧ cur.size = cap * sz ∧ cur.toList.take (l.length * sz) = l.flatMap enc := by
  rcases h.2 with ⟨h1, h2⟩ | ⟨g, cap, cur, h1, h2, h3, h4, h5, h6, h7⟩
  · exact .inl ⟨h1, List.eq_nil_of_length_eq_zero h2⟩
  · exact .inr ⟨g, cap, cur, h1, h2, h3, h4, h5, h6, h7⟩
theorem row_set {α : Type} {enc : α → List Value} (henc : ∀ x, (enc x).length = 1) {x : α} {a : Value} (hx : enc x = [a]) : ∀ (l : List α) (i : Nat), i < l.length → (l.flatMap enc).set i a = (l.set i x).flatMap enc
  | y :: l, 0, _ => by
    obtain ⟨p, hy⟩ : ∃ p, enc y = [p] := by
      match h : enc y, henc y with
      | [p], _ => exact ⟨p, rfl⟩
    simp [hy, hx]
  | y :: l, i + 1, h => by
    have ih := row_set henc hx l i (by simpa using h)
    obtain ⟨p, hy⟩ : ∃ p, enc y = [p] := by
      match h : enc y, henc y with
      | [p], _ => exact ⟨p, rfl⟩
    rw [List.set_cons_succ, List.flatMap_cons, List.flatMap_cons, ← ih, hy]
    rfl
/-- One number is put into a row of the call's own. -/
theorem own_put1 {w : World} {base g n cap i : Nat} {e : TypeId} {m : List Int} {x : Int} (h : Own encI e 1 w base (.slice (some ⟨g, 0, none⟩) n cap) m) (hn : n = m.length) (hi : i < n) :
    Own encI e 1 (w.setCell ⟨g, i, none⟩ (.int .i64 x)) base (.slice (some ⟨g, 0, none⟩) n cap) (m.set i x) := by
  unfold Own at *
  rw [List.length_set, ← hn, ← row_set (enc := encI) (fun _ => rfl) rfl m i (by omega)]
  rw [← hn] at h
  exact own_cellset h
theorem flat_set5 {α : Type} {enc : α → List Value} (henc : ∀ x, (enc x).length = 5) {x : α} {a b c d e : Value} (hx : enc x = [a, b, c, d, e]) : ∀ (l : List α) (i : Nat), i < l.length →
    (((((l.flatMap enc).set (i * 5) a).set (i * 5 + 1) b).set (i * 5 + 2) c).set (i * 5 + 3) d).set (i * 5 + 4) e = (l.set i x).flatMap enc
  | y :: l, 0, _ => by
    obtain ⟨p, q, r, s, t, hy⟩ : ∃ p q r s t, enc y = [p, q, r, s, t] := by
      match h : enc y, henc y with
      | [p, q, r, s, t], _ => exact ⟨p, q, r, s, t, rfl⟩
    simp [hy, hx]
  | y :: l, i + 1, h => by
    have ih := flat_set5 henc hx l i (by simpa using h)
    obtain ⟨p, q, r, s, t, hy⟩ : ∃ p q r s t, enc y = [p, q, r, s, t] := by
      match h : enc y, henc y with
      | [p, q, r, s, t], _ => exact ⟨p, q, r, s, t, rfl⟩
    rw [List.set_cons_succ, List.flatMap_cons, List.flatMap_cons, ← ih, hy]
    rw [show (i + 1) * 5 = i * 5 + 5 by omega]
    simp only [List.cons_append, List.nil_append, List.set_cons_succ, show i * 5 + 5 + 1 = i * 5 + 1 + 5 by omega, show i * 5 + 5 + 2 = i * 5 + 2 + 5 by omega, show i * 5 + 5 + 3 = i * 5 + 3 + 5 by omega, show i * 5 + 5 + 4 = i * 5 + 4 + 5 by omega]
theorem own_put5 {α : Type} {enc : α → List Value} (henc : ∀ x, (enc x).length = 5) {w : World} {base g n cap i : Nat} {t : TypeId} {m : List α} {x : α} {a b c d e : Value} (hx : enc x = [a, b, c, d, e])
    (h : Own enc t 5 w base (.slice (some ⟨g, 0, none⟩) n cap) m) (hn : n = m.length) (hi : i < n) :
    Own enc t 5 (((((w.setCell ⟨g, i * 5, none⟩ a).setCell ⟨g, i * 5 + 1, none⟩ b).setCell ⟨g, i * 5 + 2, none⟩ c).setCell ⟨g, i * 5 + 3, none⟩ d).setCell ⟨g, i * 5 + 4, none⟩ e) base (.slice (some ⟨g, 0, none⟩) n cap) (m.set i x) := by
  unfold Own at *
  rw [List.length_set, ← hn, ← flat_set5 henc hx m i (by omega)]
  rw [← hn] at h
  exact own_cellset (own_cellset (own_cellset (own_cellset (own_cellset h))))



theorem Sl.keepG {α : Type} {enc : α → List Value} {sz n₀ : Nat} {X : Nat → Prop} {A B : World} {a : Option Addr} {n c : Nat} {l : List α} (h : Sl enc sz A (.slice a n c) l) (k : Keep n₀ X A B) (hx : 0 < l.length → ∀ b o, a = some ⟨b, o, none⟩ → ¬ X b) : Sl enc sz B (.slice a n c) l := by
  obtain ⟨a', c', hv, hl, hc, hcell⟩ := h
  injection hv with e1 e2 e3
  subst e1 e2 e3
  refine ⟨_, _, rfl, hl, hc, fun h0 => ?_⟩
  obtain ⟨b, off, hA, hb, hcell⟩ := hcell h0
  exact ⟨b, off, hA, Nat.lt_of_lt_of_le hb k.b.size, fun i x hi j u hu => k.cell (hx h0 _ _ hA) (hcell i x hi j u hu)⟩
theorem Keep.setCell {n₀ : Nat} {X : Nat → Prop} {A B : World} (h : Keep n₀ X A B) {p : Addr} (h1 : n₀ ≤ p.block) (h2 : X p.block) (u : Value) : Keep n₀ X A (B.setCell p u) :=
  ⟨h.b.setCell h1 u, fun k hk hx hc => (Below.heap_setCell B p u k (by rintro rfl; exact hx h2)).trans (h.c k hk hx hc)⟩

attribute [local go_sem] Oper.semAt_some

/-- **THE STATEMENT**, where the loop's variable may be laid in a box, and marks may lie ahead. -/
theorem wp_rangeFuncB {α : Type} {P : Program} {g : Operand} {p : Tmp} {assign body : Code} {Q : Exit → Act → World → Prop} {a : Act} {w : World} {gf : FuncId} {lb : Array Value} (hg : a.eval g = .func (.func gf) #[] lb)
    (eg : ∀ args w, (callFunc gf args).run P w = .ok (.enter gf args) w) {n₀ : Nat} {X : Nat → Prop} {H : α → Value → World → Prop} {xs : List α} {w0 : World} (hseq : Seqs P gf lb n₀ X H xs w0) (hE : Ext w0 w) (hn : n₀ ≤ w.heap.size)
    (I : List α → World → Prop) (Ix : Code → List α → World → Prop) (hI : ∀ pre A B, I pre A → w.heap.size + 1 < A.heap.size → Turn w.heap.size A B → I pre B) (hIx : ∀ c pre A B, Ix c pre A → w.heap.size + 1 < A.heap.size → Turn w.heap.size A B → Ix c pre B)
    (h0 : ∀ W, Ext w W → I [] W) (Ax : α → Value → Act → World → Prop) (hAx : ∀ x v A W W', Ax x v A W → w.heap.size + 1 < W.heap.size → Turn w.heap.size W W' → Ax x v A W')
    (hassign : ∀ (m l : Nat) (pre : List α) (x : α) (v : Value) (W : World) (K : Act → World → Prop), I pre W → H x v W → pre ++ [x] <+: xs → w.heap.size + 1 < W.heap.size → (∀ A W', Ext W W' → Ax x v A W' → K A W') → assign.wpIn (Fence.wide.inRound l) m P (Exit.then K (fun _ _ _ => False)) { tmps := a.tmps.setIfInBounds p v, defers := [] } W)
    (hbody : ∀ (m l : Nat) (pre : List α) (x : α) (v : Value) (A : Act) (W : World), I pre W → Ax x v A W → pre ++ [x] <+: xs → w.heap.size + 1 < W.heap.size → (∃ d, W.heap[w.heap.size]? = some (.deferred d)) → (∃ r, W.heap[w.heap.size + 1]? = some (.loop r)) → body.wpIn (Fence.wide.inRound l) m P (rPost n₀ X w.heap.size I Ix (pre ++ [x]) W) A W)
    (hdone : ∀ W, I xs W → w.heap.size + 1 < W.heap.size → W.heap[w.heap.size]? = some (.deferred (some [])) → Q .normal { a with defers := { target := .collected w.heap.size, args := #[] } :: a.defers } W)
    (hstop : ∀ c pre W, pre <+: xs → Ix c pre W → w.heap.size + 1 < W.heap.size → W.heap[w.heap.size]? = some (.deferred (some [])) → c.wp P Q { a with defers := { target := .collected w.heap.size, args := #[] } :: a.defers } W) :
    (Code.rangeFunc g #[p] assign body).wp P Q a w := by
  refine (wpIn_wide (n := 0)).1 (wpIn_rangeFunc ?_)
  intro fn _
  obtain ⟨rec, hrec⟩ : ∃ rec : LoopState → Option Code → Loop, rec = fun st pe => { state := st, pending := pe, fn, tmps := a.tmps, params := #[p], assign, body, defers := w.heap.size } := ⟨_, rfl⟩
  generalize hW1 : (w.alloc (.deferred (some []))).alloc (.loop (rec .ready none)) = W1
  have hE1 : Ext w W1 := by rw [← hW1]; exact (Ext.al _ _).alloc _
  have hL1 : W1.heap[w.heap.size + 1]? = some (.loop (rec .ready none)) := by
    rw [← hW1]; have := World.alloc_heap_new (w.alloc (.deferred (some []))) (.loop (rec .ready none)); rwa [World.size_alloc] at this
  have hK1 : W1.heap[w.heap.size]? = some (.deferred (some [])) := by
    rw [← hW1]; exact (Below.heap_alloc _ _ _ (by simp)).trans (World.alloc_heap_new w _)
  have lt_of : ∀ {W : World} {o : Obj}, W.heap[w.heap.size + 1]? = some o → w.heap.size + 1 < W.heap.size := fun h => (Array.getElem?_eq_some_iff.1 h).1
  refine ⟨w.heap.size + 1, [{ target := .collected w.heap.size, args := #[] }], W1, { target := .fn (.func gf) lb, args := #[.func (.yield (w.heap.size + 1)) #[] #[]] }, W1, gf, #[.func (.yield (w.heap.size + 1)) #[] #[]] ++ lb, W1, ?_, ?_, fun _ _ => trivial, ?_, wide_depth _, ?_⟩
  · rw [wide_none, ← hW1, hrec]; exact run_enterLoop_outer _ _ _ _ _
  · simp only [resolve, hg]
    simp [go_sem]
  · simp [invoke, go_sem, eg]
  refine callsIn_wide.2 ((hseq (w.heap.size + 1)
    (fun pre W => I pre W ∧ W.heap[w.heap.size + 1]? = some (.loop (rec .ready none)) ∧ W.heap[w.heap.size]? = some (.deferred (some [])))
    (fun pre W => ∃ c, Ix c pre W ∧ W.heap[w.heap.size + 1]? = some (.loop (rec .done (some c))) ∧ W.heap[w.heap.size]? = some (.deferred (some [])))
    W1 (hE.trans hE1) ?_ ?_ ?_ ⟨h0 _ hE1, hL1, hK1⟩).mono ?_)
  · rintro pre A B ⟨h1, h2, h3⟩ hAB
    have hl := lt_of h2
    exact ⟨hI _ _ _ h1 hl (Turn.ext hAB), (hAB.block _ hl).trans h2, (hAB.block _ (by omega)).trans h3⟩
  · rintro pre A B ⟨c, h1, h2, h3⟩ hAB
    have hl := lt_of h2
    exact ⟨c, hIx _ _ _ _ h1 hl (Turn.ext hAB), (hAB.block _ hl).trans h2, (hAB.block _ (by omega)).trans h3⟩
  · rintro m pre x v W ⟨hi, hl, hk⟩ hx hpre
    have hlt := lt_of hl
    have hy := run_yield (P := P) (args := #[v]) hl (by rw [hrec]; rfl)
    refine ⟨fn, a.tmps.setIfInBounds p v, assign, body, by rw [hy, hrec]; simp, roundIn_of_wpIn trivial ?_⟩
    have fin : ∀ (jump : Option Code) (W3 : World), W3.heap[w.heap.size + 1]? = some (.loop { rec .ready none with state := .busy }) → W3.heap[w.heap.size]? = some (.deferred (some [])) →
        (Instr.endRound (w.heap.size + 1) jump).run P W3 = .ok (.bool jump.isNone) (W3.putObj (w.heap.size + 1) (.loop (rec (if jump.isNone then .ready else .done) jump))) ∧
        (W3.putObj (w.heap.size + 1) (.loop (rec (if jump.isNone then .ready else .done) jump))).heap[w.heap.size + 1]? = some (.loop (rec (if jump.isNone then .ready else .done) jump)) ∧
        (W3.putObj (w.heap.size + 1) (.loop (rec (if jump.isNone then .ready else .done) jump))).heap[w.heap.size]? = some (.deferred (some [])) := fun jump W3 h1 h2 => by
      have := run_endRound (P := P) jump h1
      rw [hrec] at this ⊢
      exact ⟨this, World.putObj_heap_same (lt_of h1), (World.putObj_heap_other (by omega)).trans h2⟩
    refine hassign m (w.heap.size + 1) pre x v W _ hi hx hpre hlt fun A V hEV hAV => ?_
    have hlV := (hEV.block _ hlt).trans hl
    have hkV := (hEV.block _ (by omega)).trans hk
    have hltV := lt_of hlV
    have hb2 : (V.putObj (w.heap.size + 1) (.loop { rec .ready none with state := .busy })).heap[w.heap.size + 1]? = some (.loop { rec .ready none with state := .busy }) := World.putObj_heap_same hltV
    have hd2 : (V.putObj (w.heap.size + 1) (.loop { rec .ready none with state := .busy })).heap[w.heap.size]? = some (.deferred (some [])) := (World.putObj_heap_other (by omega)).trans hkV
    refine ⟨_, run_beginRound hlV (by rw [hrec]), wpIn_mono (hbody m _ pre x v A _ (hI _ _ _ (hI _ _ _ hi hlt (Turn.ext hEV)) hltV (Turn.put _ _)) (hAx _ _ _ _ _ hAV hltV (Turn.put _ _)) hpre (by rw [World.putObj_size]; exact hltV) ⟨_, hd2⟩ ⟨_, hb2⟩) ?_⟩
    rintro e a3 W3 hp
    cases e with
    | normal =>
      obtain ⟨hk3, hd3, hl3, hi3⟩ := hp
      rw [hb2] at hl3; rw [hd2] at hd3
      obtain ⟨hr, hl4, hd4⟩ := fin none W3 hl3 hd3
      exact ⟨_, _, hr, .inl ⟨rfl, ⟨hI _ _ _ hi3 (lt_of hl3) (Turn.put _ _), hl4, hd4⟩, (((Keep.ext hEV (by omega)).trans (keep_put hlV hn)).trans hk3).trans (keep_put hl3 hn)⟩⟩
    | ret =>
      obtain ⟨hd3, hl3, hi3⟩ := hp
      rw [hb2] at hl3; rw [hd2] at hd3
      obtain ⟨hr, hl4, hd4⟩ := fin (some .ret) W3 hl3 hd3
      exact ⟨_, _, hr, .inr ⟨rfl, .ret, hIx _ _ _ _ hi3 (lt_of hl3) (Turn.put _ _), hl4, hd4⟩⟩
    | exit id =>
      obtain ⟨hd3, hl3, hi3⟩ := hp
      rw [hb2] at hl3; rw [hd2] at hd3
      obtain ⟨hr, hl4, hd4⟩ := fin (some (.exit id)) W3 hl3 hd3
      exact ⟨_, _, hr, .inr ⟨rfl, .exit id, hIx _ _ _ _ hi3 (lt_of hl3) (Turn.put _ _), hl4, hd4⟩⟩
    | goto t =>
      obtain ⟨hd3, hl3, hi3⟩ := hp
      rw [hb2] at hl3; rw [hd2] at hd3
      obtain ⟨hr, hl4, hd4⟩ := fin (some (.goto t)) W3 hl3 hd3
      exact ⟨_, _, hr, .inr ⟨rfl, .goto t, hIx _ _ _ _ hi3 (lt_of hl3) (Turn.put _ _), hl4, hd4⟩⟩
    | panic ch => exact hp.elim
    | outgrown => exact hp.elim
  · rintro e W2 ⟨⟨v, rfl⟩, (⟨hi, hl, hk⟩ | ⟨pre, hpre, c, hi, hl, hk⟩)⟩
    · refine ⟨none, _, by have := run_endLoop (P := P) hl (by rw [hrec]; simp); rw [hrec] at this; exact this, ?_⟩
      exact hdone _ (hI _ _ _ hi (lt_of hl) (Turn.put _ _)) (by rw [World.putObj_size]; exact lt_of hl) ((World.putObj_heap_other (by omega)).trans hk)
    · refine ⟨some c, _, by have := run_endLoop (P := P) hl (by rw [hrec]; simp); rw [hrec] at this; exact this, ?_⟩
      exact wpIn_wide.2 (hstop c pre _ hpre (hIx _ _ _ _ hi (lt_of hl) (Turn.put _ _)) (by rw [World.putObj_size]; exact lt_of hl) ((World.putObj_heap_other (by omega)).trans hk))

/-- Marks: blocks from B on that hold no deferred calls, each once. -/
def Marks (B : Nat) (W : World) : List Deferred → Prop
  | [] => True
  | d :: ds => (∃ r, d = { target := .collected r, args := #[] } ∧ B ≤ r ∧ W.heap[r]? = some (.deferred (some []))) ∧ (∀ e ∈ ds, e ≠ d) ∧ Marks B W ds
theorem Marks.same {B : Nat} {W W' : World} (h : ∀ (r : Nat) (l : Option (List Deferred)), W.heap[r]? = some (Obj.deferred l) → W'.heap[r]? = some (Obj.deferred l)) : ∀ {ds : List Deferred}, Marks B W ds → Marks B W' ds
  | [], _ => trivial
  | _ :: _, ⟨⟨r, h1, hB, h2⟩, h3, h4⟩ => ⟨⟨r, h1, hB, h _ _ h2⟩, h3, Marks.same h h4⟩
theorem Marks.ext {B : Nat} {W W' : World} {ds : List Deferred} (h : Marks B W ds) (e : Ext W W') : Marks B W' ds := Marks.same (fun r _ hr => (e.block r (Array.getElem?_eq_some_iff.1 hr).1).trans hr) h
theorem Marks.setCell {B : Nat} {W : World} {ds : List Deferred} (h : Marks B W ds) {p : Addr} (hp : ∃ c t f, W.heap[p.block]? = some (.cells c t f)) (u : Value) : Marks B (W.setCell p u) ds :=
  Marks.same (fun r _ hr => (Below.heap_setCell W p u r (by rintro rfl; obtain ⟨c, t, f, hc⟩ := hp; rw [hc] at hr; cases hr)).trans hr) h
theorem Marks.turn {B s : Nat} {W W' : World} : ∀ {ds : List Deferred}, Marks B W ds → Turn s W W' → W.heap.size ≤ s → Marks B W' ds
  | [], _, _, _ => trivial
  | _ :: _, ⟨⟨r, h1, hB, h2⟩, h3, h4⟩, hT, hs => ⟨⟨r, h1, hB, by have := (Array.getElem?_eq_some_iff.1 h2).1; exact (hT.block r this (by omega) (by omega)).trans h2⟩, h3, Marks.turn h4 hT hs⟩
theorem Marks.lt {B : Nat} {W : World} : ∀ {ds : List Deferred}, Marks B W ds → ∀ d ∈ ds, ∃ r, d = { target := .collected r, args := #[] } ∧ r < W.heap.size
  | _ :: _, ⟨⟨r, h1, _, h2⟩, _, h4⟩, d, hd => by
    rcases List.mem_cons.1 hd with rfl | hd
    · exact ⟨r, h1, (Array.getElem?_eq_some_iff.1 h2).1⟩
    · exact Marks.lt h4 d hd
/-- One mark more, of a block that was not there. -/
theorem Marks.more {B : Nat} {W W' : World} {ds : List Deferred} (h : Marks B W ds) {s : Nat} (hB : B ≤ s) (hs : W.heap.size ≤ s) (h' : Marks B W' ds) (hd : W'.heap[s]? = some (.deferred (some []))) : Marks B W' ({ target := .collected s, args := #[] } :: ds) :=
  ⟨⟨s, rfl, hB, hd⟩, fun e he => by
    obtain ⟨r, h1, h2⟩ := h.lt e he
    rw [h1]
    intro e2
    injection e2 with e2 _
    injection e2 with e2
    omega, h'⟩
/-- What the marks' taking turns. -/
structure Taken (B : Nat) (W W' : World) : Prop where
  os : W'.os = W.os
  tape : W'.tape = W.tape
  output : W'.output = W.output
  size : W'.heap.size = W.heap.size
  block : ∀ (k : Nat), (k < B ∨ ∀ l : Option (List Deferred), W.heap[k]? ≠ some (Obj.deferred l)) → W'.heap[k]? = W.heap[k]?
theorem Taken.blk {B : Nat} {W W' : World} (h : Taken B W W') {g : Nat} {t : TypeId} {cs : Array Value} (hB : Blk W g t cs) : Blk W' g t cs :=
  (h.block g (.inr fun l e => by unfold Blk at hB; rw [hB] at e; cases e)).trans hB
theorem Taken.below {B : Nat} {w W W' : World} (h : Taken B W W') (hb : Below B w W) : Below B w W' :=
  ⟨h.os.trans hb.os, h.tape.trans hb.tape, h.output.trans hb.output, by rw [h.size]; exact hb.size, fun i hi => (h.block i (.inl hi)).trans (hb.block i hi)⟩
theorem leave_marks {B : Nat} {P : Program} {fn : Func} {tmps : Array Value} {R : Ending → World → Prop} {u : FrameMode} (hu : u ≠ .run) : ∀ (ds : List Deferred) (W : World), Marks B W ds →
    (∀ W', Taken B W W' → LeavesIn Fence.wide 0 P fn tmps R [] u W') → LeavesInM Fence.wide 0 P fn tmps R ds u W
  | [], W, _, h => h W ⟨rfl, rfl, rfl, rfl, fun _ _ => rfl⟩
  | d :: ds, W, ⟨⟨r, h1, hB, h2⟩, h3, h4⟩, h => by
    subst h1
    refine ⟨hu, .inl ⟨r, _, rfl, run_takeDeferred h2, ?_⟩⟩
    refine leave_marks (B := B) hu ds _ ?_ fun W' hT => h W' ⟨hT.os, hT.tape, hT.output, hT.size.trans World.putObj_size, fun k hk => ?_⟩
    · have key : ∀ {es : List Deferred}, Marks B W es → (∀ e ∈ es, e ≠ { target := .collected r, args := #[] }) → Marks B (W.putObj r (.deferred none)) es := by
        intro es
        induction es with
        | nil => intro _ _; trivial
        | cons e es ih =>
          rintro ⟨⟨q, g1, gB, g2⟩, g3, g4⟩ g5
          have hq : q ≠ r := fun e2 => g5 e (by simp) (by rw [g1, e2])
          exact ⟨⟨q, g1, gB, (World.putObj_heap_other (fun e2 => hq e2)).trans g2⟩, g3, ih g4 fun e' he' => g5 e' (by simp [he'])⟩
      exact key h4 h3
    · have hkr : k ≠ r := by
        rintro rfl
        rcases hk with hk | hk
        · omega
        · exact hk _ h2
      have h5 : (W.putObj r (.deferred none)).heap[k]? = W.heap[k]? := World.putObj_heap_other hkr
      rw [← h5]
      exact hT.block k (hk.imp_right fun hk l => by rw [h5]; exact hk l)



/-- A frame of m slots; what some of them hold. -/
structure Fr (m : Nat) (L : List (Nat × Value)) (ds : List Deferred) (A : Act) : Prop where
  size : A.tmps.size = m
  ds : A.defers = ds
  at_ : ∀ p ∈ L, A.eval (.tmp p.1) = p.2
def lst (ρ : Nat → Value) : Nat → Nat → List Value
  | _, 0 => []
  | s, k + 1 => ρ s :: lst ρ (s + 1) k
theorem lst_evs (A : Act) : ∀ (k s : Nat), lst (fun i => A.eval (.tmp i)) s k = evs A.eval s k
  | 0, _ => rfl
  | k + 1, s => by rw [lst, evs, lst_evs A k]
theorem Fr.open_ {m : Nat} {L : List (Nat × Value)} {ds : List Deferred} {A : Act} (h : Fr m L ds A) : ∃ ρ : Nat → Value, A = { tmps := (lst ρ 0 m).toArray, defers := ds } ∧ ∀ p ∈ L, ρ p.1 = p.2 :=
  ⟨fun i => A.eval (.tmp i), by rw [lst_evs, ← h.ds]; exact frame_lit h.size, h.at_⟩
/-- A piece of the code: 0, 1 the parts of a sequence, 2 a block's, 3 a loop's, 4 a range's body. -/
def subC : List Nat → Code → Code
  | 0 :: p, .seq x _ => subC p x
  | 1 :: p, .seq _ y => subC p y
  | 2 :: p, .block _ c => subC p c
  | 3 :: p, .loop c => subC p c
  | 4 :: p, .rangeFunc _ _ _ c => subC p c
  | _, c => c
theorem Sl.grownG {α : Type} {enc : α → List Value} {sz g : Nat} {A B : World} {a : Option Addr} {n c : Nat} {l : List α} (h : Sl enc sz A (.slice a n c) l) (k : A.grownBy B (some g)) (hx : 0 < l.length → ∀ b o, a = some ⟨b, o, none⟩ → b ≠ g) : Sl enc sz B (.slice a n c) l := by
  obtain ⟨a', c', hv, hl, hc, hcell⟩ := h
  injection hv with e1 e2 e3
  subst e1 e2 e3
  refine ⟨_, _, rfl, hl, hc, fun h0 => ?_⟩
  obtain ⟨b, off, hA, hb, hcell⟩ := hcell h0
  refine ⟨b, off, hA, Nat.lt_of_lt_of_le hb k.size, fun i x hi j u hu => ?_⟩
  exact (World.cell?_of_block (a := ⟨b, _, none⟩) (k.block b hb (by intro e; injection e with e; exact hx h0 b off hA e))).trans (hcell i x hi j u hu)
theorem grown_turn {g s : Nat} {w A B : World} (h : w.grownBy A (some g)) (k : Turn s A B) (hs : w.heap.size ≤ s) : w.grownBy B (some g) :=
  ⟨k.os.trans h.os, k.tape.trans h.tape, k.output.trans h.output, Nat.le_trans h.size k.size, fun i hi hne => (k.block i (Nat.lt_of_lt_of_le hi h.size) (by omega) (by omega)).trans (h.block i hi hne)⟩
theorem Marks.grown {B g : Nat} {W W' : World} {ds : List Deferred} (h : Marks B W ds) (k : W.grownBy W' (some g)) (hg : ∀ l, W.heap[g]? ≠ some (Obj.deferred l)) : Marks B W' ds :=
  Marks.same (fun r l hr => (k.block r (Array.getElem?_eq_some_iff.1 hr).1 (by intro e; injection e with e; subst e; exact hg l hr)).trans hr) h
/-- A cell of an element is written. -/
theorem flat_set_at {α : Type} {enc : α → List Value} {sz : Nat} (henc : ∀ x, (enc x).length = sz) {x x' : α} {j : Nat} {v : Value} (hj : j < sz) (hx : (enc x).set j v = enc x') : ∀ (m : List α) (k : Nat), m[k]? = some x → (m.flatMap enc).set (k * sz + j) v = (m.set k x').flatMap enc
  | y :: m, 0, h => by
    simp at h; subst h
    rw [Nat.zero_mul, Nat.zero_add, List.flatMap_cons, List.set_append_left _ _ (by rw [henc]; exact hj), hx, List.set_cons_zero, List.flatMap_cons]
  | y :: m, k + 1, h => by
    have ih := flat_set_at henc hj hx m k (by simpa using h)
    rw [List.flatMap_cons, List.set_append_right _ _ (by rw [henc, Nat.succ_mul]; omega), henc, Nat.succ_mul, show k * sz + sz + j - sz = k * sz + j by omega, ih, List.set_cons_succ, List.flatMap_cons]



theorem Sl.head {α : Type} {enc : α → List Value} {sz : Nat} {W : World} {A : Option Addr} {n c k : Nat} {l : List α} (h : Sl enc sz W (.slice A n c) l) (hk : k ≤ n) : Sl enc sz W (.slice A k c) (l.take k) := by
  obtain ⟨A', c', hv, hlc, hcm, hx⟩ := h
  injection hv with e1 e2 e3
  subst e1 e2 e3
  refine ⟨A, c, by rw [List.length_take, Nat.min_eq_left hk], by simp; omega, hcm, fun h0 => ?_⟩
  obtain ⟨b, off, hA, hb, hc⟩ := hx (by simp at h0; omega)
  refine ⟨b, off, hA, hb, fun i x hi => hc i x ?_⟩
  rw [List.getElem?_take] at hi
  split at hi
  · exact hi
  · cases hi
theorem Sl.tail {α : Type} {enc : α → List Value} {sz : Nat} {W : World} {A : Option Addr} {n c k : Nat} {l : List α} (h : Sl enc sz W (.slice A n c) l) (hk : k ≤ n) : Sl enc sz W (sliced A k n c sz) (l.drop k) := by
  obtain ⟨A', c', hv, hlc, hcm, hx⟩ := h
  injection hv with e1 e2 e3
  subst e1 e2 e3
  refine ⟨(if c = k then A else A.map (·.add (k * sz))), c - k, by unfold sliced; rw [List.length_drop], by simp; omega, by omega, fun h0 => ?_⟩
  have h0' : k < l.length := by simp at h0; omega
  obtain ⟨b, off, rfl, hb, hc⟩ := hx (by omega)
  refine ⟨b, off + k * sz, by rw [if_neg (by omega)]; simp [Addr.add], hb, fun i x hi j w hw => ?_⟩
  rw [List.getElem?_drop] at hi
  have := hc (k + i) x hi j w hw
  rw [Nat.add_mul, ← Nat.add_assoc] at this
  exact this
theorem Sl.single {α : Type} {enc : α → List Value} {sz : Nat} {W : World} {b c : Nat} {e : TypeId} {x : α} (h : Blk W b e (enc x).toArray) (h1 : 1 ≤ c) (hc : c ≤ maxLen) : Sl enc sz W (.slice (some ⟨b, 0, none⟩) 1 c) [x] := by
  refine ⟨_, c, rfl, h1, hc, fun _ => ⟨b, 0, rfl, h.lt, fun k y hk j w hw => ?_⟩⟩
  cases k with
  | zero =>
    simp at hk
    subst hk
    have := h.cell j
    rw [show 0 + 0 * sz + j = j by omega, this]
    simpa using hw
  | succ k => simp at hk
def OneF {α : Type} (enc : α → List Value) (e : TypeId) (x : α) (v : Value) (W : World) : Prop := ∃ g, v = .slice (some ⟨g, 0, none⟩) 1 1 ∧ Blk W g e (enc x).toArray
theorem own_off {α : Type} {enc : α → List Value} {sz base g : Nat} {e t : TypeId} {cs : Array Value} {w w' : World} {v : Value} {l : List α} (h : Own enc e sz w base v l) (hB : Blk w g t cs) (hne : e ≠ t) (hG : w.grownBy w' (some g)) : Own enc e sz w' base v l := by
  refine ⟨h.1, ?_⟩
  rcases h.2 with h2 | ⟨g2, cap, cur, e1, hb, hg, h5⟩
  · exact .inl h2
  · refine .inr ⟨g2, cap, cur, e1, hb, (hG.block g2 ?_ ?_).trans hg, h5⟩
    · obtain ⟨h6, _⟩ := Array.getElem?_eq_some_iff.1 hg
      exact h6
    · intro e'
      injection e' with e'
      subst e'
      unfold Blk at hB
      rw [hg] at hB
      injection hB with hB
      injection hB with _ e2 _
      exact hne e2
--DD
theorem take_over {β : Type} (cur X Z : List β) (h : X <+: Z ∨ Z <+: X) (hz : cur.take Z.length = Z) : (X ++ cur.drop X.length).take Z.length = Z := by
  rcases h with ⟨r, rfl⟩ | ⟨r, rfl⟩
  · have h2 : (cur.drop X.length).take r.length = r := by
      have : (cur.take (X ++ r).length).drop X.length = r := by rw [hz]; simp
      rw [List.drop_take] at this
      simpa using this
    rw [List.length_append, List.take_append, List.take_of_length_le (by omega), Nat.add_sub_cancel_left, h2]
  · simp
theorem flat_prefix {α β : Type} (enc : α → List β) {a b : List α} (h : a <+: b) : a.flatMap enc <+: b.flatMap enc := by
  obtain ⟨r, rfl⟩ := h
  rw [List.flatMap_append]
  exact List.prefix_append _ _

/-- A slice in new memory, without room if it is empty. -/
def NewF {α : Type} (enc : α → List Value) (sz : Nat) (e : TypeId) (base : Nat) (p : List α) (v : Value) (W : World) : Prop := Own enc e sz W base v p ∧ ∃ A c, v = .slice A p.length c ∧ (p.length = 0 → c = 0)
def RF {α : Type} (enc : α → List Value) (sz : Nat) (e : TypeId) (base : Nat) (F : List α) (y : α) (W W' : World) : Prop :=
  W.heap.size ≤ W'.heap.size ∧ (∀ z, z <+: F → ∀ v, Own enc e sz W base v z → Own enc e sz W' base v z) ∧ (∀ b, Blk W b e (enc y).toArray → Blk W' b e (enc y).toArray) ∧ ∀ b, Blk W b e #[] → Blk W' b e #[]
theorem RF.refl {α : Type} {enc : α → List Value} {sz : Nat} {e : TypeId} {base : Nat} {F : List α} {y : α} (W : World) : RF enc sz e base F y W W := ⟨Nat.le_refl _, fun _ _ _ h => h, fun _ h => h, fun _ h => h⟩
theorem RF.ext {α : Type} {enc : α → List Value} {sz : Nat} {e : TypeId} {base : Nat} {F : List α} {y : α} {W W' : World} (h : Ext W W') : RF enc sz e base F y W W' := ⟨h.size, fun _ _ _ k => k.ext h, fun _ k => k.ext h, fun _ k => k.ext h⟩

theorem run_appF {α : Type} {enc : α → List Value} {t ty e : TypeId} {sz : Nat} {z : Value} {bytes : Nat} (ht : Tryz.prog.underlying t = some (.slice e))
    (hinfo : (Tryz.prog.info? e).map (fun i => (i.zero, i.size, i.bytes)) = some (some z, sz, bytes)) (hzs : z.cells.size = sz) (hsz : 0 < sz) (hbytes : bytes ≤ 1000) (henc : ∀ x, (enc x).length = sz) (h1c : ∀ x, ∀ u ∈ enc x, u.oneCell' = true)
    {W : World} {base : Nat} {v x : Value} {F p m : List α} {y : α} (hv : NewF enc sz e base p v W) (hpm : p ++ m <+: F) (hF : F.length ≤ 1000) (hb : base ≤ W.heap.size) (hx : Sl enc sz W x m) :
    ∃ v' W', (Builtin.append_ #[t, t] ty #[v, x]).run Tryz.prog W = .ok v' W' ∧ NewF enc sz e base (p ++ m) v' W' ∧ RF enc sz e base F y W W' ∧ Below base W W' := by
  obtain ⟨i0, hi, hz0, hz1, hz2⟩ := info_parts hinfo
  obtain ⟨hown, A, c0, hv0, hc0⟩ := id hv
  have hpl := hpm.length_le
  rw [List.length_append] at hpl
  by_cases h0 : m.length = 0
  · have : m = [] := List.eq_nil_of_length_eq_zero h0
    subst this
    obtain ⟨A2, c2, rfl, _, _, _⟩ := hx
    obtain ⟨A3, n3, c3, e3, _, hlc, _⟩ := (Own.sl henc hown : Sl enc sz W v p).form
    have hrun := run_append_nothing (P := Tryz.prog) W t t ty e i0 ht hi A p.length c0 (by rw [hv0] at e3; injection e3 with _ e4 e5; omega) (.slice A2 0 c2)
      ⟨.inl ⟨e, ht⟩, fun _ => by simp [Builtin.lenOf], by cases A2 <;> simp [Builtin.firstCells, loadCells, loadCellsFrom], by cases A2 <;> simp [Builtin.firstCells, loadCells, loadCellsFrom], by simp, by simp⟩
    rw [← hv0] at hrun
    refine ⟨_, _, hrun, ?_, RF.refl _, Below.refl _ _⟩
    rw [List.append_nil]
    exact hv
  · obtain ⟨A2, c, rfl, hlc2, hcm2, hcell⟩ := id hx
    obtain ⟨b, off, rfl, hbb, _⟩ := hcell (by omega)
    clear hcell
    have hnews := Sl.flat henc hsz hx
    have hml := enc_len henc m
    have h1' : ∀ u ∈ m.flatMap enc, u.oneCell' = true := fun u hu => by
      obtain ⟨q, _, hq⟩ := List.mem_flatMap.1 hu
      exact h1c q u hq
    have hby : (p.length + m.length) * bytes ≤ 1000 * 1000 := Nat.mul_le_mul (by omega) hbytes
    obtain ⟨v', W', hr, h1, h2, _⟩ := run_append_own (P := Tryz.prog) W base t ty e i0 z sz bytes ht hi hz0 hz1 hz2 hzs hsz v p.length (p.flatMap enc) hown ⟨b, off, none⟩ m.length c (m.flatMap enc) hml hnews h1' (by unfold maxLen; omega) (by omega) hb
    have h1o : Own enc e sz W' base v' (p ++ m) := by unfold Own; rw [List.length_append, List.flatMap_append]; exact h1
    have hn' : NewF enc sz e base (p ++ m) v' W' := by
      obtain ⟨A4, n4, c4, e4, hn4, _, _⟩ := (Own.sl henc h1o : Sl enc sz W' v' (p ++ m)).form
      exact ⟨h1o, A4, c4, by rw [e4, hn4], fun h => by rw [List.length_append] at h; omega⟩
    refine ⟨v', W', hr, hn', ?_, (Below.refl base W).grown h2 hb (fun k hk => (World.ownsRow.lt hown k hk).1)⟩
    rcases id hown.2 with ⟨rfl, hp0⟩ | ⟨g, cap, cur, rfl, hg, hgg, hlc, hcm, hcs, htake⟩
    · have hE : Ext W W' := ⟨h2.os, h2.tape, h2.output, h2.size, fun i hi => h2.block i hi (by simp [Value.ownBlock])⟩
      exact RF.ext hE
    · have hpf := enc_len henc p
      by_cases hroom : p.length + m.length ≤ cap
      · have hl0 : p.length ≠ 0 := fun h => by
          injection hv0 with _ _ e3
          have := hc0 h
          omega
        have hmul : (p.length + m.length) * sz ≤ cap * sz := Nat.mul_le_mul_right _ hroom
        rw [Nat.add_mul] at hmul
        have hr2 := run_append_room (P := Tryz.prog) W t ty e i0 ht hi g p.length cap cur hgg ⟨b, off, none⟩ m.length c (m.flatMap enc) (by rw [hz1]; exact hml) hnews h1' (by exact hroom) (by rw [hz1, hcs, hml]; exact hmul)
        rw [hr] at hr2
        injection hr2 with hv' hW'
        rw [hz1, htake] at hW'
        have hX : ((p ++ m).flatMap enc).length = p.length * sz + (m.flatMap enc).length := by rw [List.flatMap_append, List.length_append, hpf]
        rw [← hX, ← List.flatMap_append] at hW'
        have hgW : W'.heap[g]? = some (.cells ((p ++ m).flatMap enc ++ cur.toList.drop ((p ++ m).flatMap enc).length).toArray e (0, 0)) := by
          rw [hW']; exact setRow_heap W g cur _ e _ hgg
        have hsz' : ((p ++ m).flatMap enc ++ cur.toList.drop ((p ++ m).flatMap enc).length).toArray.size = cap * sz := by
          simp only [List.size_toArray, List.length_append, List.length_drop, Array.length_toList, hcs]
          rw [hX, hml]; omega
        have hoth : ∀ k, k ≠ g → W'.heap[k]? = W.heap[k]? := fun k hk => by rw [hW']; exact setRow_other W g k _ hk
        have hne : ∀ b2 cs, Blk W b2 e cs → cs.size ≤ sz → b2 ≠ g := by
          intro b2 cs hB hs he
          subst he
          unfold Blk at hB
          rw [hgg] at hB
          injection hB with hB
          injection hB with e1 _ _
          rw [← e1, hcs] at hs
          have : cap ≤ 1 := Nat.le_of_mul_le_mul_right (by omega) hsz
          omega
        refine ⟨h2.size, fun z' hz v2 ho => ?_, fun b2 hB => (hoth b2 (hne b2 _ hB (by simp [henc]))).trans hB, fun b2 hB => (hoth b2 (hne b2 _ hB (by simp))).trans hB⟩
        rcases id ho.2 with ⟨rfl, hn⟩ | ⟨g2, cap2, cur2, rfl, hg2, hgg2, hlc2, hcm2, hcs2, ht2⟩
        · exact ⟨ho.1, .inl ⟨rfl, hn⟩⟩
        · refine ⟨ho.1, .inr ?_⟩
          by_cases he : g2 = g
          · subst he
            rw [hgg] at hgg2
            injection hgg2 with hgg2
            injection hgg2 with e1 _ _
            subst e1
            refine ⟨g2, cap2, _, rfl, hg2, hgW, hlc2, hcm2, by rw [hsz']; omega, ?_⟩
            have := take_over cur.toList ((p ++ m).flatMap enc) (z'.flatMap enc) ((List.prefix_or_prefix_of_prefix hpm hz).imp (flat_prefix enc) (flat_prefix enc)) (by rw [enc_len henc]; exact ht2)
            rw [enc_len henc z'] at this
            exact this
          · exact ⟨g2, cap2, cur2, rfl, hg2, (hoth g2 he).trans hgg2, hlc2, hcm2, by omega, ht2⟩
      · have holds : ∀ j u, (p.flatMap enc)[j]? = some u → W.cell? ((⟨g, 0, none⟩ : Addr).add j) = some u := World.ownsRow.cells hown (g := g) rfl
        have hr2 := run_append_grow (P := Tryz.prog) W t ty e i0 z ht hi hz0 ⟨g, 0, none⟩ p.length cap (p.flatMap enc) (by rw [hz1]; exact hpf) holds ⟨b, off, none⟩ m.length c (m.flatMap enc) (by rw [hz1]; exact hml) hnews (by omega) (by omega) (growslice_fits (by omega) (by rw [hz2]; omega))
        rw [hr] at hr2
        injection hr2 with hv' hW'
        subst hW'
        exact RF.ext ((Ext.refl W).drew.alloc _)



/-- Rows of other types stay. -/
def OffX (e : TypeId) (W W' : World) : Prop := ∀ b e' cs, e' ≠ e → Blk W b e' cs → Blk W' b e' cs
theorem OffX.ext {e : TypeId} {W W' : World} (h : Ext W W') : OffX e W W' := fun _ _ _ _ k => k.ext h
theorem OffX.grown {α : Type} {enc : α → List Value} {e : TypeId} {sz base : Nat} {v : Value} {l : List α} {W W' : World} (h : Own enc e sz W base v l) (hg : W.grownBy W' v.ownBlock) : OffX e W W' := by
  intro b e' cs ne hB
  refine hB.grown hg ?_
  rcases h.2 with ⟨rfl, _⟩ | ⟨g, cap, cur, rfl, _, hh, _⟩
  · simp [Value.ownBlock]
  · intro he
    have : b = g := by simpa [Value.ownBlock] using he
    subst this
    unfold Blk at hB
    rw [hh] at hB
    injection hB with hB
    injection hB with _ e2 _
    exact ne e2.symm
theorem Own.offX {α : Type} {enc : α → List Value} {e e' : TypeId} {sz base : Nat} {v : Value} {l : List α} {W W' : World} (h : Own enc e' sz W base v l) (k : OffX e W W') (ne : e' ≠ e) : Own enc e' sz W' base v l := by
  refine ⟨h.1, ?_⟩
  rcases h.2 with h2 | ⟨g, cap, cur, e1, hb, hg, h5⟩
  · exact .inl h2
  · exact .inr ⟨g, cap, cur, e1, hb, k g e' cur ne hg, h5⟩
theorem ext_belowX {a w w' : World} {B : Nat} (h : Ext a w) (k : Below B w w') (hB : a.heap.size ≤ B) (hs : w.heap.size ≤ w'.heap.size) : Ext a w' :=
  ⟨k.os.trans h.os, k.tape.trans h.tape, k.output.trans h.output, Nat.le_trans h.size hs, fun i hi => (k.block i (by omega)).trans (h.block i hi)⟩

theorem run_appO {α : Type} {enc : α → List Value} {t ty e : TypeId} {sz : Nat} {z : Value} {bytes : Nat} (ht : Tryz.prog.underlying t = some (.slice e))
    (hinfo : (Tryz.prog.info? e).map (fun i => (i.zero, i.size, i.bytes)) = some (some z, sz, bytes)) (hzs : z.cells.size = sz) (hsz : 0 < sz) (hbytes : bytes ≤ 1000) (henc : ∀ x, (enc x).length = sz) (h1c : ∀ x, ∀ u ∈ enc x, u.oneCell' = true)
    {W : World} {base : Nat} {v x : Value} {l : List α} {y : α} (hv : NewF enc sz e base l v W) (hF : l.length < 1000) (hb : base ≤ W.heap.size) (hx : OneF enc e y x W) :
    ∃ v' W', (Builtin.append_ #[t, t] ty #[v, x]).run Tryz.prog W = .ok v' W' ∧ NewF enc sz e base (l ++ [y]) v' W' ∧ RF enc sz e base (l ++ [y]) y W W' ∧ Below base W W' ∧ OffX e W W' := by
  obtain ⟨b, rfl, hB⟩ := hx
  have hs : Sl enc sz W (.slice (some ⟨b, 0, none⟩) 1 1) [y] := Sl.single hB (Nat.le_refl _) (by decide)
  obtain ⟨v', W', hr, k1, k2, k3⟩ := run_appF (t := t) (ty := ty) (enc := enc) (sz := sz) (p := l) (m := [y]) (y := y) (F := l ++ [y]) ht hinfo hzs hsz hbytes henc h1c hv (List.prefix_refl _) (by rw [List.length_append]; simp; omega) hb hs
  refine ⟨v', W', hr, k1, k2, k3, ?_⟩
  obtain ⟨i0, hi, hz0, hz1, hz2⟩ := info_parts hinfo
  have hby : (l.length + 1) * bytes ≤ 1000 * 1000 := Nat.mul_le_mul (by omega) hbytes
  obtain ⟨v2, W2, hr2, -, h2, -⟩ := run_append_own (P := Tryz.prog) W base t ty e i0 z sz bytes ht hi hz0 hz1 hz2 hzs hsz v l.length (l.flatMap enc) hv.1 ⟨b, 0, none⟩ 1 1 ([y].flatMap enc) (by simp [henc]) (Sl.flat henc hsz hs) (fun u hu => by
    obtain ⟨q, _, hq⟩ := List.mem_flatMap.1 hu
    exact h1c q u hq) (by unfold maxLen; omega) (by omega) hb
  rw [hr] at hr2
  injection hr2 with _ e2
  subst e2
  exact OffX.grown hv.1 h2

end Go.Proofs.YtkpengeaolcjhaaGreatDoor
/- mill.in; slices.IndexFunc and ContainsFunc at cottons; cmp.Less, Or; slices.IsSorted and Compact at numbers. -/
namespace Go.Proofs.YtkpengeaolcjhaaGreatDoor
open Go.RowKit Go.Shelf Go.Lib
set_option maxRecDepth 100000
set_option linter.unusedSimpArgs false

theorem f143_any (lo hi n : Int) (B1 B2 : Nat) (w : World) (h1 : w.cell? ⟨B1, 0, none⟩ = some (.int .i64 lo)) (h2 : w.cell? ⟨B2, 0, none⟩ = some (.int .i64 hi)) :
    Calls Tryz.prog 143 #[.int .i64 n, .pointer (some ⟨B1, 0, none⟩), .pointer (some ⟨B2, 0, none⟩)] w fun e w' => e = .returned (.bool (!inB lo hi n)) ∧ Ext w w' := by
  go_enter Tryz.func143, Tryz.ntmps143
  go_wp2
  all_goals go_ret
  all_goals exact ⟨ret_bool (by rw [← not_inB]; try simp [*]), Ext.refl w⟩

theorem inM_any (lo hi : Int) (l : List Int) (v : Value) (w : World) (hs : SlI w v l) :
    Calls Tryz.prog 107 #[.int .i64 lo, .int .i64 hi, v] w fun e w' => e = .returned (.bool (l.all (inB lo hi))) ∧ Ext w w' := by
  have hmf : ∀ (fn : Fn) (first cap : Array Value) (w : World), (Instr.makeFunc fn first cap).run Tryz.prog w = .ok (.func fn first cap) w := fun _ _ _ _ => rfl
  have HS := Lib.hid hs; clear hs
  go_enter Tryz.func107, Tryz.ntmps107
  go_wp2_with fail
  refine (f135_any 143 _ (enters_of Tryz.func143 (by kernel_rfl) rfl) (fun n => !inB lo hi n) l v _ ((HS.out.ext (Ext.al _ _)).ext (Ext.al _ _)) ?_).mono ?_
  · intro W x _ hW
    exact f143_any lo hi x w.heap.size (w.heap.size + 1) W ((hW.cell (p := ⟨w.heap.size, 0, none⟩) (by simp; omega)).trans (by simp [go_sem])) ((hW.cell (p := ⟨w.heap.size + 1, 0, none⟩) (by simp)).trans (by simp [go_sem]))
  rintro e w' ⟨rfl, hb'⟩
  go_wp2
  go_ret
  exact ⟨ret_bool (by simp [List.all_eq_not_any_not]), ((Ext.al _ _).trans (Ext.al _ _)).trans hb'⟩

theorem inM1_any (lo hi n : Int) (B : Nat) (W : World) (hb : B < W.heap.size) (hc : W.cell? ⟨B, 0, none⟩ = some (.int .i64 n)) :
    Calls Tryz.prog 107 #[.int .i64 lo, .int .i64 hi, .slice (some ⟨B, 0, none⟩) 1 1] W fun e w' => e = .returned (.bool (inB lo hi n)) ∧ Ext W w' :=
  (inM_any lo hi [n] _ W (SlI.lit [n] hb (by simp [maxLen]) (fun j x hx => by match j, hx with | 0, hx => simp at hx; subst hx; exact hc))).mono fun e w' ⟨he, hw⟩ => ⟨by rw [he]; exact ret_bool (by simp), hw⟩

set_option maxHeartbeats 400000 in
theorem f196_any (g : FuncId) (cap : Array Value) (eg : ∀ args w, (callFunc g args).run Tryz.prog w = .ok (.enter g args) w) (p : Rc → Bool) (l : List Rc) (v : Value) (w : World) (hs : SlC w v l) (hp : Pred valC g cap p l w) :
    Calls Tryz.prog 196 #[v, .func (.func g) #[] cap] w fun e w' => e = .returned (.int .i64 (idxF p l)) ∧ Ext w w' := by
  obtain ⟨A, n, c, rfl, hn, hlc, hcm⟩ := hs.form
  have HP := Lib.hid hp; clear hp
  go_enter Tryz.func196, Tryz.ntmps196
  go_wp2
  go_loopg [5, 8] n (fun gg _ s8 wr => ∃ kk : Nat, kk ≤ n ∧ n - kk ≤ gg ∧ s8 = .int .i64 kk ∧ Aside (Ext w wr) ∧ Aside (∀ j y, j < kk → l[j]? = some y → p y = false))
  case atStart => exact ⟨0, Nat.zero_le _, by omega, rfl, Ext.refl w, fun j y hj => absurd hj (Nat.not_lt_zero _)⟩
  case round =>
    obtain ⟨kk, hkk, hg, rfl, BW, FA⟩ := hrel
    by_cases hlt : kk < n
    · have hltz : (kk : Int) < (n : Int) := by omega
      obtain ⟨b, off, x, rfl, hx, hb, hcell⟩ := hs.at_ hlt
      obtain ⟨c0, c1, c2, c3, c4, c5, c6, c7⟩ := SlC.cells hcell BW.out
      have hcall := HP.out wr x (List.mem_of_getElem? hx) BW.out
      have HX := Lib.hid hx; clear hx hcell hs
      cases hq : p x with
      | true =>
        rw [hq] at hcall
        have HC := Lib.hid hcall; clear hcall
        have HQ := Lib.hid hq; clear hq
        go_wp2_with (go_at_fn g; refine HC.out.mono ?_; rintro e w' ⟨rfl, hb'⟩)
        go_ret
        exact ⟨by rw [idxF_some p l kk x HX.out HQ.out FA.out]; rfl, BW.out.trans hb'⟩
      | false =>
        rw [hq] at hcall
        have HC := Lib.hid hcall; clear hcall
        have HQ := Lib.hid hq; clear hq
        go_wp2_with (go_at_fn g; refine HC.out.mono ?_; rintro e w' ⟨rfl, hb'⟩)
        go_roundg (n - (kk + 1))
        case measure => omega
        case rel => exact ⟨kk + 1, by omega, by omega, rfl, BW.out.trans hb', fun j y hj hy => by
          rcases Nat.lt_succ_iff_lt_or_eq.1 hj with h | rfl
          · exact FA.out j y h hy
          · rw [HX.out] at hy; cases hy; exact HQ.out⟩
    · have HE := Lib.hid (show kk = n by omega); clear hs
      go_wp2
      go_ret
      exact ⟨by rw [idxF_none p l (fun x hx => by obtain ⟨j, hj⟩ := List.getElem?_of_mem hx; exact FA.out j x (by have := (List.getElem?_eq_some_iff.1 hj).1; have := HE.out; have := hn.out; omega) hj)]; rfl, BW.out⟩


theorem f189_any (g : FuncId) (cap : Array Value) (eg : ∀ args w, (callFunc g args).run Tryz.prog w = .ok (.enter g args) w) (p : Rc → Bool) (l : List Rc) (v : Value) (w : World) (hs : SlC w v l) (hp : Pred valC g cap p l w) :
    Calls Tryz.prog 189 #[v, .func (.func g) #[] cap] w fun e w' => e = .returned (.bool (l.any p)) ∧ Ext w w' := by
  have HP := Lib.hid hp; clear hp
  have HS := Lib.hid hs; clear hs
  go_enter Tryz.func189, Tryz.ntmps189
  go_wp2_with (go_at_call 196; refine (f196_any g cap eg p l v _ HS.out HP.out).mono ?_; rintro e w' ⟨rfl, hb'⟩)
  go_ret
  exact ⟨ret_bool (idxF_any p l), hb'⟩


def cmpI (a b : Int) : Int := if a < b then -1 else if b < a then 1 else 0
theorem nan_any (x : Int) (w : World) : Calls Tryz.prog 111 #[.int .i64 x] w fun e w' => e = .returned (.bool false) ∧ Ext w w' := by
  go_enter Tryz.func111, Tryz.ntmps111
  go_wp2
  go_ret
  exact ⟨by simp, Ext.refl _⟩
theorem compare_any (a b : Int) (w : World) : Calls Tryz.prog 75 #[.int .i64 a, .int .i64 b] w fun e w' => e = .returned (.int .i64 (cmpI a b)) ∧ Ext w w' := by
  go_enter Tryz.func75, Tryz.ntmps75
  go_wp2_with fail
  refine (nan_any a w).mono ?_
  rintro e w1 ⟨rfl, hE1⟩
  have HE1 := Lib.hid hE1; clear hE1
  go_wp2_with fail
  refine (nan_any b w1).mono ?_
  rintro e w2 ⟨rfl, hE2⟩
  have HE2 := Lib.hid (HE1.out.trans hE2); clear hE2
  by_cases h1 : a < b
  · have HC := Lib.hid (show cmpI a b = -1 by unfold cmpI; rw [if_pos h1])
    go_wp2
    go_ret
    exact ⟨by rw [HC.out]; rfl, HE2.out⟩
  · by_cases h2 : b < a
    · have HC := Lib.hid (show cmpI a b = 1 by unfold cmpI; rw [if_neg h1, if_pos h2])
      go_wp2
      go_ret
      exact ⟨by rw [HC.out]; rfl, HE2.out⟩
    · have HC := Lib.hid (show cmpI a b = 0 by unfold cmpI; rw [if_neg h1, if_neg h2])
      go_wp2
      go_ret
      exact ⟨by rw [HC.out]; rfl, HE2.out⟩
theorem wrap_nat {k : Nat} (h : k ≤ 100000) : IntKind.i64.wrap (k : Int) = (k : Int) := by
  rw [IntKind.wrap_i64]
  omega
theorem less_any (a b : Int) (w : World) : Calls Tryz.prog 124 #[.int .i64 a, .int .i64 b] w fun e w' => e = .returned (.bool (decide (a < b))) ∧ Ext w w' := by
  go_enter Tryz.func124, Tryz.ntmps124
  go_wp2_with fail
  refine (nan_any a w).mono ?_
  rintro e w1 ⟨rfl, hE1⟩
  have HE1 := Lib.hid hE1; clear hE1
  go_wp2
  go_ret
  exact ⟨rfl, HE1.out⟩
def orI (a b : Int) : Int := if a ≠ 0 then a else b

set_option maxHeartbeats 1000000 in
theorem sorted_any (l : List Int) (v : Value) (w : World) (hs : SlI w v l) : Calls Tryz.prog 192 #[v] w fun e w' => e = .returned (.bool (notDown l)) ∧ Ext w w' := by
  obtain ⟨A, n, c, rfl, hn, hlc, hcm⟩ := hs.form
  have HS := Lib.hid hs; clear hs
  go_enter Tryz.func192, Tryz.ntmps192
  have hw0 : IntKind.i64.wrap ((n : Int) - 1) = (n : Int) - 1 := by rw [IntKind.wrap_i64]; omega
  go_wp2
  go_loopg [3] n (fun gg s3 wr => ∃ i : Int, s3 = .int .i64 i ∧ -1 ≤ i ∧ i < n ∧ i.toNat ≤ gg ∧ Aside (Ext w wr) ∧ Aside (∀ (k : Nat) (a b : Int), i ≤ k → l[k]? = some a → l[k + 1]? = some b → a ≤ b))
  case atStart => exact ⟨(n : Int) - 1, rfl, by omega, by omega, by omega, Ext.refl w, fun k a b hk _ hb => by
    have := (List.getElem?_eq_some_iff.1 hb).1; have := hn.out; omega⟩
  case round =>
    obtain ⟨i, rfl, hi0, hi1, hg, BW, FA⟩ := hrel
    by_cases hlt : 0 < i
    · obtain ⟨k, rfl⟩ : ∃ k : Nat, i = (k : Int) + 1 := ⟨(i - 1).toNat, by omega⟩
      obtain ⟨b, off, x, rfl, hx, hb, hcell⟩ := HS.out.at_ (show k < n by omega)
      obtain ⟨b', off', y, e1, hy, hb', hcell'⟩ := HS.out.at_ (show k + 1 < n by omega)
      injection e1 with e1
      injection e1 with e1 e2 _
      subst e1 e2
      have q0 := fun W (h : Ext wr W) => SlI.cell hcell (BW.out.trans h)
      have q1 := fun W (h : Ext wr W) => SlI.cell hcell' (BW.out.trans h)
      have HX := Lib.hid hx; have HY := Lib.hid hy
      have hw1 : IntKind.i64.wrap (k : Int) = (k : Int) := by rw [IntKind.wrap_i64]; omega
      have hkz : (k : Int) < (n : Int) := by omega
      have hkz1 : (k : Int) + 1 < (n : Int) := by omega
      have hk0 : (0 : Int) ≤ (k : Int) + 1 := by omega
      clear hx hy hcell hcell'
      go_wp2_with fail
      refine wp_region_tame (fun W => Ext wr W) (fun W W' => Ext W W') (by kernel_rfl) 21 rfl (by decide +kernel) (Ext.refl _).drew ?_
      repeat (apply tame_q rfl; (intro ρ W hC hr hD; (obtain ⟨hrc, hrg, hrf, hrs⟩ := hr); (simp [go_sem] at hD); go_simp; first | exact ⟨⟨hC, Ext.refl _⟩, rfl⟩ | exact ⟨⟨hC, RS.refl _⟩, rfl⟩ | exact rfl); simp only [List.nil_append, List.cons_append])
      apply tame_q rfl
      · intro ρ W hC hr hD
        obtain ⟨hrc, hrg, hrf, hrs⟩ := hr
        simp [go_sem] at hD
        go_simp
        refine (less_any y x W).mono ?_
        rintro e w' ⟨rfl, hE⟩
        exact ⟨_, rfl, ⟨hC.trans hE, hE⟩, rfl⟩
      simp only [List.nil_append, List.cons_append]
      refine tame_end 21 rfl rfl (fun ρ W hC hr hF => ?_)
      obtain ⟨hrc, hrg, hrf, hrs⟩ := hr
      simp [go_sem] at hF
      apply frame_to
      · go_simp
        exact rfl
      clear hF hrs hrc hrg hrf
      have HE := Lib.hid (BW.out.trans hC); clear hC q0 q1
      by_cases hyx : y < x
      · have HQ := Lib.hid (show notDown l = false by
          rw [Bool.eq_false_iff]; intro h
          have := (notDown_iff l).1 h k x y HX.out HY.out; omega)
        go_wp2
        go_ret
        exact ⟨by rw [HQ.out]; rfl, HE.out⟩
      · have HQ := Lib.hid (show x ≤ y by omega)
        go_wp2
        go_roundg k
        case measure => omega
        case rel => exact ⟨(k : Int), rfl, by omega, by omega, by omega, HE.out, fun j a b hj ha hb2 => by
          by_cases hjk : j = k
          · subst hjk
            rw [HX.out] at ha; rw [HY.out] at hb2
            injection ha with ha; injection hb2 with hb2
            have := HQ.out; omega
          · exact FA.out j a b (by omega) ha hb2⟩
    · have HQ := Lib.hid (show notDown l = true from (notDown_iff l).2 fun k a b ha hb => FA.out k a b (by omega) ha hb)
      have hd0 : decide (0 < i) = false := decide_eq_false hlt
      have hle : i ≤ 0 := by omega
      go_wp2
      go_ret
      exact ⟨by rw [HQ.out]; rfl, BW.out⟩

theorem noTwins_short {l : List Int} (h : l.length < 2) : noTwins l = true := (noTwins_iff l).2 fun k a b _ hb => by
  have := (List.getElem?_eq_some_iff.1 hb).1
  omega
set_option maxHeartbeats 2000000 in
theorem compact_any (l : List Int) (v : Value) (base : Nat) (w : World) (hb : base ≤ w.heap.size) (ho : Own encI 3 1 w base v l) (hlen : l.length ≤ 1000) :
    Calls Tryz.prog 193 #[v] w fun e w' => (∃ A n c, e = .returned (.slice A n c) ∧ n ≤ l.length ∧ decide (n = l.length) = noTwins l) ∧ Below base w w' := by
  have HO := Lib.hid ho
  have hsl : SlI w v l := Own.sl (enc := encI) (fun _ => rfl) ho
  obtain ⟨A, n, c, rfl, hn, hlc, hcm⟩ := hsl.form
  have HN := Lib.hid (show n = l.length from hn.out)
  by_cases h2 : n < 2
  · have h2z : (n : Int) < 2 := by omega
    have HT := Lib.hid (noTwins_short (l := l) (by have := HN.out; omega))
    have HB := Lib.hid hb
    clear ho hsl hn
    go_enter Tryz.func193, Tryz.ntmps193
    go_wp2
    go_ret
    exact ⟨⟨_, _, _, rfl, by have := HN.out; omega, by rw [HT.out]; exact decide_eq_true HN.out⟩, Below.refl _ _⟩
  have h2z : ¬ (n : Int) < 2 := by omega
  obtain ⟨g, hbg, rfl⟩ : ∃ g, base ≤ g ∧ A = some ⟨g, 0, none⟩ := by
    rcases own_form ho with ⟨h1, -⟩ | ⟨g, cap, cur, h1, h3, -⟩
    · injection h1 with _ h1 _; omega
    · injection h1 with h1 _ _; exact ⟨g, h3, h1⟩
  have hnz : (n : Int) ≤ 9223372036854775807 := by have := HN.out; omega
  have hn1 : n ≤ 1000 := by have := HN.out; omega
  have HB := Lib.hid hb
  clear ho hsl hn
  go_enter Tryz.func193, Tryz.ntmps193
  go_wp2
  go_loopg [3] n (fun gg s3 wr => ∃ k : Nat, s3 = .int .i64 ((k : Int) + 1) ∧ k + 1 ≤ n ∧ n - k ≤ gg ∧ Aside (Ext w wr) ∧ Aside (∀ (j : Nat) (a b : Int), j < k → l[j]? = some a → l[j + 1]? = some b → b ≠ a))
  case atStart => exact ⟨0, by simp, by omega, by omega, Ext.refl w, fun j a b hj => by omega⟩
  case round =>
    obtain ⟨k, rfl, hk, hg, BW, FA⟩ := hrel
    have OM := Lib.hid (HO.out.ext BW.out)
    have hsl : SlI wr (.slice (some ⟨g, 0, none⟩) n c) l := Own.sl (enc := encI) (fun _ => rfl) OM.out
    by_cases hlt : k + 1 < n
    · have hltz : (k : Int) + 1 < (n : Int) := by omega
      have hk0 : (0 : Int) ≤ (k : Int) + 1 := by omega
      have hw1 : IntKind.i64.wrap (k : Int) = (k : Int) := by rw [IntKind.wrap_i64]; omega
      have hw2 : IntKind.i64.wrap ((k : Int) + 1 + 1) = (k : Int) + 1 + 1 := by rw [IntKind.wrap_i64]; omega
      have hkz : (k : Int) < (n : Int) := by omega
      obtain ⟨b, off, x, e0, hx, hb1, hcell⟩ := hsl.at_ (show k < n by omega)
      obtain ⟨b', off', y, e1, hy, hb', hcell'⟩ := hsl.at_ hlt
      injection e0 with e0
      injection e0 with e0 e2 _
      subst e0 e2
      injection e1 with e1
      injection e1 with e1 e2 _
      subst e1 e2
      have q0 := fun W (h : Ext wr W) => (show W.cell? ⟨g, k, none⟩ = some (.int .i64 x) by have := SlI.cell hcell h; rwa [Nat.zero_add] at this)
      have q1 := fun W (h : Ext wr W) => (show W.cell? ⟨g, k + 1, none⟩ = some (.int .i64 y) by have := SlI.cell hcell' h; rwa [Nat.zero_add] at this)
      have HX := Lib.hid hx; have HY := Lib.hid hy
      clear hx hy hcell hcell' hsl
      go_wp2_with fail
      refine wp_region_tame (fun W => Ext wr W) (fun W W' => Ext W W') (by kernel_rfl) 61 rfl (by decide +kernel) (Ext.refl _).drew ?_
      repeat (apply tame_q rfl; (intro ρ W hC hr hD; (obtain ⟨hrc, hrg, hrf, hrs⟩ := hr); (simp [go_sem] at hD); go_simp; first | exact ⟨⟨hC, Ext.refl _⟩, rfl⟩ | exact ⟨⟨hC, RS.refl _⟩, rfl⟩ | exact rfl); simp only [List.nil_append, List.cons_append])
      refine tame_end 61 rfl rfl (fun ρ W hC hr hF => ?_)
      obtain ⟨hrc, hrg, hrf, hrs⟩ := hr
      simp [go_sem] at hF
      apply frame_to
      · go_simp
        exact rfl
      clear hF hrs hrc hrg hrf
      have HE := Lib.hid (BW.out.trans hC); have OM2 := Lib.hid (OM.out.ext hC)
      clear hC q0 q1
      by_cases hyx : y = x
      · subst hyx
        have HT := Lib.hid (show noTwins l = false by
          rw [Bool.eq_false_iff]; intro h
          exact (noTwins_iff l).1 h k y y HX.out HY.out rfl)
        have hkz : (k : Int) + 1 ≤ (n : Int) := by omega
        have hkc : (k : Int) + 1 ≤ (c : Int) := by omega
        clear FA
        simp only [beq_self_eq_true]
        go_wp2
        have HN2 := Lib.hid (show (n - (k + 1)) + (k + 1) = n by omega)
        have hN2 : 1 ≤ n - (k + 1) := by omega
        generalize n - (k + 1) = N2 at *
        generalize c - (k + 1) = c2 at *
        obtain ⟨wo, hwo⟩ : ∃ wo, wo = W := ⟨_, rfl⟩
        subst hwo
        go_loopg [3, 5] N2 (fun gg s3 s5 wr => ∃ (kk j : Nat) (m : List Int), s3 = .int .i64 (kk : Int) ∧ s5 = .int .i64 ((j : Int) + 1) ∧ j + 1 ≤ N2 ∧ kk ≤ k + 1 + j ∧ N2 - j ≤ gg ∧ m.length = n ∧ Aside (Own encI 3 1 wr base (.slice (some ⟨g, 0, none⟩) n c) m) ∧ Aside (Below base w wr))
        case atStart => exact ⟨k + 1, 0, l, by simp, by simp, by omega, by omega, by omega, HN.out.symm, OM2.out, HE.out.mono HB.out⟩
        case round =>
          obtain ⟨kk, j, m, rfl, rfl, hj, hkk, hgg, hml, OJ, BJ⟩ := hrel
          have hsm : SlI wr (.slice (some ⟨g, 0, none⟩) n c) m := Own.sl (enc := encI) (fun _ => rfl) OJ.out
          by_cases hjn : j + 1 < N2
          · have hjz : (j : Int) + 1 < (N2 : Int) := by omega
            have hjz1 : (j : Int) < (N2 : Int) := by omega
            have hj0 : (0 : Int) ≤ (j : Int) + 1 := by omega
            have hwj : IntKind.i64.wrap (j : Int) = (j : Int) := by rw [IntKind.wrap_i64]; have := HN2.out; omega
            have hwj2 : IntKind.i64.wrap ((j : Int) + 1 + 1) = (j : Int) + 1 + 1 := by rw [IntKind.wrap_i64]; have := HN2.out; omega
            obtain ⟨b, off, p, e0, hp, hb1, hcell⟩ := hsm.at_ (show k + 1 + j < n by have := HN2.out; omega)
            obtain ⟨b', off', q, e1, hq, hb', hcell'⟩ := hsm.at_ (show k + 1 + (j + 1) < n by have := HN2.out; omega)
            injection e0 with e0
            injection e0 with e0 e2 _
            subst e0 e2
            injection e1 with e1
            injection e1 with e1 e2 _
            subst e1 e2
            have q0 := fun W (h : Ext wr W) => (show W.cell? ⟨g, k + 1 + j, none⟩ = some (.int .i64 p) by have := SlI.cell hcell h; rwa [Nat.zero_add] at this)
            have q1 := fun W (h : Ext wr W) => (show W.cell? ⟨g, k + 1 + (j + 1), none⟩ = some (.int .i64 q) by have := SlI.cell hcell' h; rwa [Nat.zero_add] at this)
            clear hcell hcell' hsm hp hq
            go_wp2_with fail
            refine wp_region_tame (fun W => Ext wr W) (fun W W' => Ext W W') (by kernel_rfl) 61 rfl (by decide +kernel) (Ext.refl _).drew ?_
            repeat (apply tame_q rfl; (intro ρ W hC hr hD; (obtain ⟨hrc, hrg, hrf, hrs⟩ := hr); (simp [go_sem] at hD); go_simp; first | exact ⟨⟨hC, Ext.refl _⟩, rfl⟩ | exact ⟨⟨hC, RS.refl _⟩, rfl⟩ | exact rfl); simp only [List.nil_append, List.cons_append])
            refine tame_end 61 rfl rfl (fun ρ W hC hr hF => ?_)
            obtain ⟨hrc, hrg, hrf, hrs⟩ := hr
            simp [go_sem] at hF
            apply frame_to
            · go_simp
              exact rfl
            clear hF hrs hrc hrg hrf
            have BJ2 := Lib.hid (BJ.out.trans (hC.mono (Nat.le_trans HB.out BJ.out.size))); have OJ2 := Lib.hid (OJ.out.ext hC)
            have c1 := q1 _ hC
            clear hC q0 q1
            by_cases hqp : q = p
            · subst hqp
              go_wp2
              go_roundg (N2 - (j + 1))
              case measure => omega
              case rel => exact ⟨kk, j + 1, m, rfl, by simp, by omega, by omega, by omega, hml, OJ2.out, BJ2.out⟩
            · have hqb : (q == p) = false := by simpa using hqp
              have hkn : kk < n := by have := HN2.out; omega
              have hknz : (kk : Int) < (n : Int) := by omega
              have hwk : IntKind.i64.wrap ((kk : Int) + 1) = (kk : Int) + 1 := by rw [IntKind.wrap_i64]; omega
              have df : ∀ k, W.frozen? ⟨g, k, none⟩ = false := fun k => own_frozen OJ2.out k
              obtain ⟨b3, off3, z, e3, -, -, hcz⟩ := (show SlI W (.slice (some ⟨g, 0, none⟩) n c) m from Own.sl (enc := encI) (fun _ => rfl) OJ2.out).at_ hkn
              injection e3 with e3
              injection e3 with e3 e4 _
              subst e3 e4
              have cz := SlI.cell hcz (Ext.refl _)
              rw [Nat.zero_add] at cz
              clear hcz
              have OJ3 := Lib.hid (own_put1 (x := q) OJ2.out hml.symm hkn)
              have BJ3 := Lib.hid (BJ2.out.setCell (p := ⟨g, kk, none⟩) hbg (.int .i64 q))
              go_wp2
              go_roundg (N2 - (j + 1))
              case measure => omega
              case rel => exact ⟨kk + 1, j + 1, m.set kk q, by simp, by simp, by omega, by omega, by omega, by rw [List.length_set]; exact hml, OJ3.out, BJ3.out⟩
          · have hkn : kk < n := by have := HN2.out; omega
            obtain ⟨w', hr, HOC, hgr⟩ := run_clear_own (enc := encI) (sz := 1) (fun _ => rfl) (t := 36) (e := 3) (ty := 0) (z := .int .i64 0) Tryz.underlying36 Tryz.zeroValue3 rfl (by decide) (by decide) (k := kk) (c := c - kk) OJ.out hml.symm (by omega)
            simp only [Nat.mul_one] at hr
            have HBE := Lib.hid (BJ.out.trans (row_below hgr (Nat.le_trans HB.out BJ.out.size) hbg))
            have hle : kk ≤ n := by omega
            have hlez : (kk : Int) ≤ (n : Int) := by omega
            have hkc2 : kk ≤ c := by omega
            have hkc2z : (kk : Int) ≤ (c : Int) := by omega
            clear hgr hsm
            go_wp2
            go_ret
            exact ⟨⟨_, _, _, rfl, by have := HN.out; omega, by rw [HT.out]; exact decide_eq_false (by have := HN.out; omega)⟩, HBE.out⟩
      · have HXY := Lib.hid hyx
        have hyx' : (y == x) = false := by simpa using hyx
        clear hyx
        go_wp2
        go_roundg (n - (k + 1))
        case measure => omega
        case rel => exact ⟨k + 1, by simp, by omega, by omega, HE.out, fun j a b hj ha hb2 => by
          by_cases hjk : j = k
          · subst hjk
            rw [HX.out] at ha; rw [HY.out] at hb2
            injection ha with ha; injection hb2 with hb2
            rw [← ha, ← hb2]; exact HXY.out
          · exact FA.out j a b (by omega) ha hb2⟩
    · have HT := Lib.hid (show noTwins l = true from (noTwins_iff l).2 fun j a b ha hb2 => FA.out j a b (by have := (List.getElem?_eq_some_iff.1 hb2).1; have := HN.out; omega) ha hb2)
      have HBE := Lib.hid (BW.out.mono HB.out)
      clear hsl FA
      go_wp2
      go_ret
      exact ⟨⟨_, _, _, rfl, by have := HN.out; omega, by rw [HT.out]; exact decide_eq_true HN.out⟩, HBE.out⟩
end Go.Proofs.YtkpengeaolcjhaaGreatDoor
