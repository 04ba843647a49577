/- slices.Clone at draws and weighings; core.copied. -/
import Derived.Test.YtdlipbobfgdleaaDoorPkTruthCardQ
import Derived.Test.YtdlipbobfgdleaaDoorPkTruthCardF
import Derived.Test.YtdlipbobfgdleaaDoorPkTruthCardD
import Derived.Test.YtdlipbobfgdleaaDoorPkTruthCardL
import Derived.DeepKeys4
import Derived.Maps.Views
import Derived.Test.YtdlipbobfgdleaaDoorPkTruthCardO
import Derived.Test.YtdlipbobfgdleaaDoorPkTruthCardP
import Derived.Test.YtdlipbobfgdleaaDoorPkTruthCardE
import Derived.Test.YtdlipbobfgdleaaDoorPkTruthCardN
namespace Go.Proofs.YtdlipbobfgdleaaDoor
open Go.RowKit Go.Shelf Go.Lib
set_option maxRecDepth 100000
set_option linter.unusedSimpArgs false

@[go_sem] theorem eql24nil (w : World) (a : Option Addr) (n c : Nat) : (binOp .eql 24 (.slice a n c) (.slice none 0 0)).run Tryd.prog w = .ok (.bool a.isNone) w := Lib.run_eql_slice_nil w 24 63 a n c 0 0 Tryd.underlying24
theorem wpList_copyD {ops : Array Oper} {rest : List Oper} {o : Oper} {a : Act} {Q : Exit → Act → World → Prop} {W : World} (hgd : o.guard = none) (s x : Operand)
    (ho : o.op = .call { callee := .builtin .append, args := #[s, x], argTypes := #[24, 24] }) {base g : Nat} (hs : a.eval s = .slice (some ⟨g, 0, none⟩) 0 0) {v : Value} (hx : a.eval x = v)
    (hB : Blk W g 63 #[]) (hg : base ≤ g) (hW : base ≤ W.heap.size) {l : List Draw} (hl : SlD W v l) (hlen : l.length ≤ 1000)
    (h : ∀ v' W', Own encD 63 4 W' base v' l → Ext W W' → wpList Tryd.prog ops Q rest (a.put o.dst v') W') : wpList Tryd.prog ops Q (o :: rest) a W := by
  obtain ⟨v', W', hr, h1, h2⟩ := run_copy (t := 24) (ty := o.type) (enc := encD) (sz := 4) Tryd.underlying24 info63x rfl (by decide) (by decide) (fun _ => rfl) hB hg hW hl hlen
  refine wpList_plain hgd fun K hK => ?_
  unfold Oper.wp execOp
  simp only [ho, resolve, invoke, builtin, Sem.run_bind, Sem.run_pure, Result.andThen_ok, List.map_toArray, List.map_cons, List.map_nil, hs, hx, hr]
  exact hK _ _ (h v' W' h1 h2)
theorem cloneD_any (v : Value) (l : List Draw) (w : World) (hs : SlD w v l) (hlen : l.length ≤ 1000) :
    Calls Tryd.prog 143 #[v] w fun e w' => ∃ v', e = .returned v' ∧ Own encD 63 4 w' w.heap.size v' l ∧ Ext w w' := by
  have HS := Lib.hid hs
  have HL := Lib.hid hlen
  obtain ⟨A, n, c, rfl, hn, hlc, hcm⟩ := hs.form
  have HN := Lib.hid (show A.isNone = true → l = [] ∧ n = 0 from fun h => by
    obtain ⟨A', c', hv, _, _, hx⟩ := hs
    injection hv with e1 e2 e3
    subst e1 e3
    have hl0 : l = [] := by
      by_cases h0 : 0 < l.length
      · obtain ⟨_, _, h1, _⟩ := hx h0; rw [h1] at h; cases h
      · exact List.eq_nil_of_length_eq_zero (by omega)
    exact ⟨hl0, by rw [e2, hl0]; rfl⟩)
  clear hs hlen hn hlc hcm
  cases hN : A.isNone with
  | true =>
    obtain ⟨rfl, rfl⟩ := HN.out hN
    clear HS HL HN
    go_enter Tryd.func143, Tryd.ntmps143
    go_wp2
    go_ret
    exact ⟨_, rfl, Own.nil _ _, Ext.refl _⟩
  | false =>
    clear HN
    go_enter Tryd.func143, Tryd.ntmps143
    go_wp2_with (at_builtin; refine wpList_copyD rfl (.tmp 5) (.tmp 6) rfl (base := w.heap.size) (g := w.heap.size) rfl rfl (Blk.new _ _ _) (Nat.le_refl _) (by simp) (HS.out.ext (Ext.al _ _)) HL.out ?_)
    intro v1 w1 hown hext
    have HE := Lib.hid (show Ext w w1 from (Ext.al _ _).trans hext)
    go_wp2
    go_ret
    exact ⟨_, rfl, hown, HE.out⟩
@[go_sem] theorem eql25nil (w : World) (a : Option Addr) (n c : Nat) : (binOp .eql 25 (.slice a n c) (.slice none 0 0)).run Tryd.prog w = .ok (.bool a.isNone) w := Lib.run_eql_slice_nil w 25 65 a n c 0 0 Tryd.underlying25
theorem wpList_copyW {ops : Array Oper} {rest : List Oper} {o : Oper} {a : Act} {Q : Exit → Act → World → Prop} {W : World} (hgd : o.guard = none) (s x : Operand)
    (ho : o.op = .call { callee := .builtin .append, args := #[s, x], argTypes := #[25, 25] }) {base g : Nat} (hs : a.eval s = .slice (some ⟨g, 0, none⟩) 0 0) {v : Value} (hx : a.eval x = v)
    (hB : Blk W g 65 #[]) (hg : base ≤ g) (hW : base ≤ W.heap.size) {l : List Weigh} (hl : SlW W v l) (hlen : l.length ≤ 1000)
    (h : ∀ v' W', Own encW 65 4 W' base v' l → Ext W W' → wpList Tryd.prog ops Q rest (a.put o.dst v') W') : wpList Tryd.prog ops Q (o :: rest) a W := by
  obtain ⟨v', W', hr, h1, h2⟩ := run_copy (t := 25) (ty := o.type) (enc := encW) (sz := 4) Tryd.underlying25 info65x rfl (by decide) (by decide) (fun _ => rfl) hB hg hW hl hlen
  refine wpList_plain hgd fun K hK => ?_
  unfold Oper.wp execOp
  simp only [ho, resolve, invoke, builtin, Sem.run_bind, Sem.run_pure, Result.andThen_ok, List.map_toArray, List.map_cons, List.map_nil, hs, hx, hr]
  exact hK _ _ (h v' W' h1 h2)
theorem cloneW_any (v : Value) (l : List Weigh) (w : World) (hs : SlW w v l) (hlen : l.length ≤ 1000) :
    Calls Tryd.prog 144 #[v] w fun e w' => ∃ v', e = .returned v' ∧ Own encW 65 4 w' w.heap.size v' l ∧ Ext w w' := by
  have HS := Lib.hid hs
  have HL := Lib.hid hlen
  obtain ⟨A, n, c, rfl, hn, hlc, hcm⟩ := hs.form
  have HN := Lib.hid (show A.isNone = true → l = [] ∧ n = 0 from fun h => by
    obtain ⟨A', c', hv, _, _, hx⟩ := hs
    injection hv with e1 e2 e3
    subst e1 e3
    have hl0 : l = [] := by
      by_cases h0 : 0 < l.length
      · obtain ⟨_, _, h1, _⟩ := hx h0; rw [h1] at h; cases h
      · exact List.eq_nil_of_length_eq_zero (by omega)
    exact ⟨hl0, by rw [e2, hl0]; rfl⟩)
  clear hs hlen hn hlc hcm
  cases hN : A.isNone with
  | true =>
    obtain ⟨rfl, rfl⟩ := HN.out hN
    clear HS HL HN
    go_enter Tryd.func144, Tryd.ntmps144
    go_wp2
    go_ret
    exact ⟨_, rfl, Own.nil _ _, Ext.refl _⟩
  | false =>
    clear HN
    go_enter Tryd.func144, Tryd.ntmps144
    go_wp2_with (at_builtin; refine wpList_copyW rfl (.tmp 5) (.tmp 6) rfl (base := w.heap.size) (g := w.heap.size) rfl rfl (Blk.new _ _ _) (Nat.le_refl _) (by simp) (HS.out.ext (Ext.al _ _)) HL.out ?_)
    intro v1 w1 hown hext
    have HE := Lib.hid (show Ext w w1 from (Ext.al _ _).trans hext)
    go_wp2
    go_ret
    exact ⟨_, rfl, hown, HE.out⟩

/-- A slice that does not lie in block g. -/
def GoodS {α : Type} (enc : α → List Value) (g : Nat) (l : List α) (v : Value) (W : World) : Prop := Sl enc 4 W v l ∧ ∀ a n c b o, v = .slice a n c → a = some ⟨b, o, none⟩ → 0 < l.length → b ≠ g
theorem GoodS.ext {α : Type} {enc : α → List Value} {g : Nat} {l : List α} {v : Value} {W W' : World} (h : GoodS enc g l v W) (e : Ext W W') : GoodS enc g l v W' := ⟨h.1.ext e, h.2⟩
theorem GoodS.set {α : Type} {enc : α → List Value} {g i : Nat} {l : List α} {v : Value} {W : World} (h : GoodS enc g l v W) (u : Value) : GoodS enc g l v (W.setCell ⟨g, i, none⟩ u) := by
  obtain ⟨⟨a, c, hv, hl, hc, hx⟩, hf⟩ := h
  refine ⟨⟨a, c, hv, hl, hc, fun h0 => ?_⟩, hf⟩
  obtain ⟨b, off, hA, hb, hcell⟩ := hx h0
  exact ⟨b, off, hA, by simpa [World.setCell] using hb, fun k x hk j w hw => (World.cell?_of_block (a := ⟨b, _, none⟩) (Below.heap_setCell W ⟨g, i, none⟩ u b (hf a _ c b off hv hA h0))).trans (hcell k x hk j w hw)⟩
theorem GoodS.own {α : Type} {enc : α → List Value} {g base : Nat} {e : TypeId} {l : List α} {v : Value} {W : World} (henc : ∀ x, (enc x).length = 4) (h : Own enc e 4 W base v l) (hg : g < base) : GoodS enc g l v W := by
  refine ⟨Own.sl henc h, fun a n c b o hv ha _ => ?_⟩
  rcases h.2 with ⟨h2, _⟩ | ⟨g', cap', cur, e1, hb, _⟩
  · rw [hv] at h2; injection h2 with h2; rw [ha] at h2; cases h2
  · rw [hv] at e1; injection e1 with e1; rw [ha] at e1; injection e1 with e1; injection e1 with e1; omega
theorem GoodS.old {α : Type} {enc : α → List Value} {g : Nat} {l : List α} {v : Value} {w W : World} (h : Sl enc 4 w v l) (hg : w.heap.size ≤ g) (e : Ext w W) : GoodS enc g l v W := by
  refine ⟨h.ext e, fun a n c b o hv ha h0 => ?_⟩
  obtain ⟨a', c', hv', _, _, hx⟩ := h
  obtain ⟨b', off, hA, hb, _⟩ := hx h0
  rw [hv'] at hv
  injection hv with hv
  rw [← hv, hA] at ha
  injection ha with ha
  injection ha with ha
  omega
/-- Cell i of block g holds a fresh slice of l. -/
def FrC {α : Type} (enc : α → List Value) (e : TypeId) (base g i : Nat) (l : List α) (W : World) : Prop := ∃ v, W.cell? ⟨g, i, none⟩ = some v ∧ Own enc e 4 W base v l
theorem FrC.ext {α : Type} {enc : α → List Value} {e : TypeId} {base g i : Nat} {l : List α} {W W' : World} (h : FrC enc e base g i l W) (hE : Ext W W') : FrC enc e base g i l W' := by
  obtain ⟨v, h1, h2⟩ := h
  exact ⟨v, (hE.cells.1 _ _ (is_cells h1).1).trans h1, h2.ext hE⟩
def RD (b : Bale) (base g : Nat) (W W' : World) : Prop :=
  (∀ v, GoodS encD g b.draws v W → GoodS encD g b.draws v W') ∧ (∀ v, GoodS encW g b.weighs v W → GoodS encW g b.weighs v W') ∧ (∀ v, Own encD 63 4 W base v b.draws → Own encD 63 4 W' base v b.draws) ∧ (∀ v, Own encW 65 4 W base v b.weighs → Own encW 65 4 W' base v b.weighs) ∧
    (FrC encD 63 base g 4 b.draws W → FrC encD 63 base g 4 b.draws W') ∧ (FrC encW 65 base g 5 b.weighs W → FrC encW 65 base g 5 b.weighs W')
theorem RD.refl {b : Bale} {base g : Nat} (W : World) : RD b base g W W := ⟨fun _ h => h, fun _ h => h, fun _ h => h, fun _ h => h, fun h => h, fun h => h⟩
theorem RD.ext {b : Bale} {base g : Nat} {W W' : World} (e : Ext W W') : RD b base g W W' := ⟨fun _ h => h.ext e, fun _ h => h.ext e, fun _ h => h.ext e, fun _ h => h.ext e, fun h => h.ext e, fun h => h.ext e⟩
theorem RD.set4 {b : Bale} {base g : Nat} {W : World} {dx : Value} (hg : g < base) (hd : Own encD 63 4 W base dx b.draws) : RD b base g W (W.setCell ⟨g, 4, none⟩ dx) ∧ ((∃ u, W.cell? ⟨g, 4, none⟩ = some u) → FrC encD 63 base g 4 b.draws (W.setCell ⟨g, 4, none⟩ dx)) :=
  have key : (∃ u, W.cell? ⟨g, 4, none⟩ = some u) → FrC encD 63 base g 4 b.draws (W.setCell ⟨g, 4, none⟩ dx) := fun ⟨_, hu⟩ => ⟨dx, World.cell?_setCell_same (h := hu) .., hd.far hg _⟩
  ⟨⟨fun _ h => h.set _, fun _ h => h.set _, fun _ h => h.far hg _, fun _ h => h.far hg _, fun ⟨u, hu, _⟩ => key ⟨u, hu⟩, fun ⟨v, h1, h2⟩ => ⟨v, (World.cell?_setCell_other (h := by intro e; injection e with _ e _; omega) ..).trans h1, h2.far hg _⟩⟩, key⟩
theorem RD.set5 {b : Bale} {base g : Nat} {W : World} {wx : Value} (hg : g < base) (hd : Own encW 65 4 W base wx b.weighs) : RD b base g W (W.setCell ⟨g, 5, none⟩ wx) ∧ ((∃ u, W.cell? ⟨g, 5, none⟩ = some u) → FrC encW 65 base g 5 b.weighs (W.setCell ⟨g, 5, none⟩ wx)) :=
  have key : (∃ u, W.cell? ⟨g, 5, none⟩ = some u) → FrC encW 65 base g 5 b.weighs (W.setCell ⟨g, 5, none⟩ wx) := fun ⟨_, hu⟩ => ⟨wx, World.cell?_setCell_same (h := hu) .., hd.far hg _⟩
  ⟨⟨fun _ h => h.set _, fun _ h => h.set _, fun _ h => h.far hg _, fun _ h => h.far hg _, fun ⟨v, h1, h2⟩ => ⟨v, (World.cell?_setCell_other (h := by intro e; injection e with _ e _; omega) ..).trans h1, h2.far hg _⟩, fun ⟨u, hu, _⟩ => key ⟨u, hu⟩⟩, key⟩
/-- The world while a bale is copied: but for block g nothing has turned, and block g is the bale's. -/
def CD (b : Bale) (w : World) (g : Nat) (W : World) : Prop := w.grownBy W (some g) ∧ ∃ dx wx, Blk W g 27 #[.int .i64 b.id, .int .i64 b.layers, .int .i64 b.dry.lo, .int .i64 b.dry.hi, dx, wx] ∧ GoodS encD g b.draws dx W ∧ GoodS encW g b.weighs wx W
theorem CD.ext {b : Bale} {w : World} {g : Nat} {W W' : World} (h : CD b w g W) (e : Ext W W') : CD b w g W' := by
  obtain ⟨h1, dx, wx, h2, h3, h4⟩ := h
  exact ⟨grown_ext h1 e, dx, wx, h2.ext e, h3.ext e, h4.ext e⟩

set_option maxHeartbeats 1000000 in
theorem copied_any (b : Bale) (dv wv : Value) (w : World) (hd : SlD w dv b.draws) (hw : SlW w wv b.weighs) (hld : b.draws.length ≤ 1000) (hlw : b.weighs.length ≤ 1000) :
    Calls Tryd.prog 112 #[valB b dv wv] w fun e w' => (∃ v, e = .returned v ∧ TwinV b w.heap.size v w') ∧ Ext w w' := by
  have HD := Lib.hid hd
  have HW := Lib.hid hw
  obtain ⟨A, n, cp, rfl, hn, hlc, hcm⟩ := hd.form
  obtain ⟨A2, n2, cp2, rfl, hn2, hlc2, hcm2⟩ := hw.form
  clear hd hw
  go_enter Tryd.func112, Tryd.ntmps112
  go_wp2
  generalize hW0 : (w.alloc (.cells #[.int .i64 b.id, .int .i64 b.layers, .int .i64 b.dry.lo, .int .i64 b.dry.hi, .slice A n cp, .slice A2 n2 cp2] 27)).alloc (.cells #[.int .i64 0, .int .i64 0, .int .i64 0, .int .i64 0, .slice none 0 0, .slice none 0 0] 27) = w1
  have HE := Lib.hid (show Ext w w1 from hW0 ▸ ((Ext.al w _).alloc _))
  have hsz : w1.heap.size = w.heap.size + 2 := by rw [← hW0]; simp
  have HB1 := Lib.hid (show Blk w1 w.heap.size 27 #[.int .i64 b.id, .int .i64 b.layers, .int .i64 b.dry.lo, .int .i64 b.dry.hi, .slice A n cp, .slice A2 n2 cp2] from hW0 ▸ ((Blk.at_ rfl).alloc _))
  have HB2 := Lib.hid (show Blk w1 (w.heap.size + 1) 27 #[.int .i64 0, .int .i64 0, .int .i64 0, .int .i64 0, .slice none 0 0, .slice none 0 0] from hW0 ▸ (Blk.at_ (by simp)))
  clear hW0
  have hgb : w.heap.size < w1.heap.size := by omega
  have HSZ := Lib.hid hsz; clear hsz
  refine wp_region_tame (CD b w1 w.heap.size) (RD b w1.heap.size w.heap.size) (by kernel_rfl) 12 rfl (by decide +kernel) ?_ ?_
  · exact ⟨⟨rfl, rfl, rfl, Nat.le_refl _, fun _ _ _ => rfl⟩, _, _, HB1.out, GoodS.old HD.out (Nat.le_refl _) HE.out.drew, GoodS.old HW.out (Nat.le_refl _) HE.out.drew⟩
  repeat (apply tame_q rfl; (intro ρ W hC hr hD; (obtain ⟨hrc, hrg, hrf, hrs⟩ := hr); (simp [go_sem] at hD); go_simp; first | exact ⟨⟨hC, RD.refl _⟩, rfl⟩ | exact rfl); simp only [List.nil_append, List.cons_append])
  apply tame_v rfl (GoodS encD w.heap.size b.draws) (fun v W W' _ hR h => hR.1 v h)
  · intro ρ W hC hr hD
    obtain ⟨hrc, hrg, hrf, hrs⟩ := hr
    simp [go_sem] at hD
    obtain ⟨hg, dx, wx, hB, g1, g2⟩ := id hC
    have c4 := hB.cell 4
    simp at c4
    go_simp
    exact ⟨hC, RD.refl _⟩
  simp only [List.nil_append, List.cons_append]
  apply tame_v rfl (fun v W => Own encD 63 4 W w1.heap.size v b.draws) (fun v W W' _ hR h => hR.2.2.1 v h)
  · intro ρ W hC hr hD
    obtain ⟨hrc, hrg, hrf, hrs⟩ := hr
    simp [go_sem] at hD
    go_simp
    refine (cloneD_any _ b.draws W hD.1 hld).mono ?_
    rintro e w' ⟨v', rfl, ho, hE⟩
    exact ⟨_, rfl, ⟨hC.ext hE, RD.ext hE⟩, ho.mono hC.1.size⟩
  simp only [List.nil_append, List.cons_append]
  repeat (apply tame_q rfl; (intro ρ W hC hr hD; (obtain ⟨hrc, hrg, hrf, hrs⟩ := hr); (simp [go_sem] at hD); go_simp; first | exact ⟨⟨hC, RD.refl _⟩, rfl⟩ | exact rfl); simp only [List.nil_append, List.cons_append])
  apply tame_v rfl (GoodS encW w.heap.size b.weighs) (fun v W W' _ hR h => hR.2.1 v h)
  · intro ρ W hC hr hD
    obtain ⟨hrc, hrg, hrf, hrs⟩ := hr
    simp [go_sem] at hD
    obtain ⟨hg, dx, wx, hB, g1, g2⟩ := id hC
    have c5 := hB.cell 5
    simp at c5
    go_simp
    exact ⟨hC, RD.refl _⟩
  simp only [List.nil_append, List.cons_append]
  apply tame_v rfl (fun v W => Own encW 65 4 W w1.heap.size v b.weighs) (fun v W W' _ hR h => hR.2.2.2.1 v h)
  · intro ρ W hC hr hD
    obtain ⟨hrc, hrg, hrf, hrs⟩ := hr
    simp [go_sem] at hD
    go_simp
    refine (cloneW_any _ b.weighs W hD.1.1 hlw).mono ?_
    rintro e w' ⟨v', rfl, ho, hE⟩
    exact ⟨_, rfl, ⟨hC.ext hE, RD.ext hE⟩, ho.mono hC.1.size⟩
  simp only [List.nil_append, List.cons_append]
  repeat (apply tame_q rfl; (intro ρ W hC hr hD; (obtain ⟨hrc, hrg, hrf, hrs⟩ := hr); (simp [go_sem] at hD); go_simp; first | exact ⟨⟨hC, RD.refl _⟩, rfl⟩ | exact rfl); simp only [List.nil_append, List.cons_append])
  apply tame_n (fun _ W => FrC encD 63 w1.heap.size w.heap.size 4 b.draws W) (fun _ W W' _ hR h => hR.2.2.2.2.1 h)
  · intro ρ W hC hr hD
    obtain ⟨hrc, hrg, hrf, hrs⟩ := hr
    simp [go_sem] at hD
    obtain ⟨h9, h5, -⟩ := hD
    obtain ⟨hg, dx, wx, hB, g1, g2⟩ := hC
    have c4 := hB.cell 4
    have cf := hB.frozen
    simp at c4
    obtain ⟨Ad, nd, cd, ed, -, -, -⟩ := (show SlD W (ρ (.tmp 5)) b.draws from h5.sl (fun _ => rfl)).form
    rw [ed] at h5
    have H5 := Lib.hid h5; have HB := Lib.hid hB; have HG := Lib.hid hg; have G2 := Lib.hid g2
    clear h5 hB hg g1 g2
    go_simp
    obtain ⟨r1, r2⟩ := RD.set4 (b := b) (base := w1.heap.size) (W := W) hgb H5.out
    exact ⟨⟨⟨grown_set HG.out (p := ⟨w.heap.size, 4, none⟩) (.inl rfl) _, _, _, by simpa using HB.out.set_ 4 (.slice Ad nd cd), GoodS.own (fun _ => rfl) (H5.out.far (a := ⟨w.heap.size, 4, none⟩) hgb _) hgb, G2.out.set _⟩, r1⟩, r2 ⟨_, c4⟩⟩
  simp only [List.nil_append, List.cons_append]
  repeat (apply tame_q rfl; (intro ρ W hC hr hD; (obtain ⟨hrc, hrg, hrf, hrs⟩ := hr); (simp [go_sem] at hD); go_simp; first | exact ⟨⟨hC, RD.refl _⟩, rfl⟩ | exact rfl); simp only [List.nil_append, List.cons_append])
  apply tame_n (fun _ W => FrC encW 65 w1.heap.size w.heap.size 5 b.weighs W) (fun _ W W' _ hR h => hR.2.2.2.2.2 h)
  · intro ρ W hC hr hD
    obtain ⟨hrc, hrg, hrf, hrs⟩ := hr
    simp [go_sem] at hD
    obtain ⟨h10, h8, -⟩ := hD
    obtain ⟨hg, dx, wx, hB, g1, g2⟩ := hC
    have c5 := hB.cell 5
    have cf := hB.frozen
    simp at c5
    obtain ⟨Ad, nd, cd, ed, -, -, -⟩ := (show SlW W (ρ (.tmp 8)) b.weighs from h8.sl (fun _ => rfl)).form
    rw [ed] at h8
    have H8 := Lib.hid h8; have HB := Lib.hid hB; have HG := Lib.hid hg; have G1 := Lib.hid g1
    clear h8 hB hg g1 g2
    go_simp
    obtain ⟨r1, r2⟩ := RD.set5 (b := b) (base := w1.heap.size) (W := W) hgb H8.out
    exact ⟨⟨⟨grown_set HG.out (p := ⟨w.heap.size, 5, none⟩) (.inl rfl) _, _, _, by simpa using HB.out.set_ 5 (.slice Ad nd cd), G1.out.set _, GoodS.own (fun _ => rfl) (H8.out.far (a := ⟨w.heap.size, 5, none⟩) hgb _) hgb⟩, r1⟩, r2 ⟨_, c5⟩⟩
  simp only [List.nil_append, List.cons_append]
  refine tame_end 12 rfl rfl (fun ρ W hC hr hF => ?_)
  obtain ⟨hrc, hrg, hrf, hrs⟩ := hr
  simp [go_sem] at hF
  obtain ⟨f3, f4, f5, f6, f7, f8, f9, fD, f10, fW⟩ := hF
  obtain ⟨hg, dx, wx, hB, -, -⟩ := hC
  obtain ⟨dx', e4, o1⟩ := fD
  obtain ⟨wx', e5, o2⟩ := fW
  obtain rfl : dx' = dx := by have := hB.cell 4; rw [e4] at this; simpa using this
  obtain rfl : wx' = wx := by have := hB.cell 5; rw [e5] at this; simpa using this
  obtain ⟨Ad, nd, cd, rfl, -, -, -⟩ := (show SlD W dx' b.draws from o1.sl (fun _ => rfl)).form
  obtain ⟨Aw, nw, cw, rfl, -, -, -⟩ := (show SlW W wx' b.weighs from o2.sl (fun _ => rfl)).form
  have O1 := Lib.hid o1; have O2 := Lib.hid o2; have HG := Lib.hid hg; have HBW := Lib.hid hB
  have HB3 := Lib.hid (HB2.out.grown hg (by intro e; injection e with e; omega))
  generalize ρ (Operand.tmp 4) = v4 at *
  generalize ρ (Operand.tmp 5) = v5 at *
  generalize ρ (Operand.tmp 7) = v7 at *
  generalize ρ (Operand.tmp 8) = v8 at *
  apply frame_to
  · go_simp
    exact rfl
  clear f3 f4 f5 f6 f7 f8 f9 f10 e4 e5 o1 o2 hg hB hrc hrg hrf hrs
  have x0 := HBW.out.cell 0
  have x1 := HBW.out.cell 1
  have x2 := HBW.out.cell 2
  have x3 := HBW.out.cell 3
  have x4 := HBW.out.cell 4
  have x5 := HBW.out.cell 5
  have xl := HBW.out.lt
  have tf := HB3.out.frozen
  have tl := HB3.out.lt
  have t0 := HB3.out.cell 0
  have t1 := HB3.out.cell 1
  have t2 := HB3.out.cell 2
  have t3 := HB3.out.cell 3
  have t4 := HB3.out.cell 4
  have t5 := HB3.out.cell 5
  simp at x0 x1 x2 x3 x4 x5 t0 t1 t2 t3 t4 t5
  go_wp2
  refine ret_set6 HB3.out fun W' ⟨b0, b1, b2, b3, b4, b5⟩ hW => ?_
  have hsz := HSZ.out
  refine bodyPost_ret (v := valB b (.slice Ad nd cd) (.slice Aw nw cw)) (by simp [results, Tryd.results112, go_sem, b0, b1, b2, b3, b4, b5]) rfl ?_
  exact ⟨⟨_, rfl, ⟨_, _, rfl, own_mono (own_kept O1.out hW (by omega)) (by omega), own_mono (own_kept O2.out hW (by omega)) (by omega)⟩⟩, ext_grown (ext_grown HE.out HG.out (Nat.le_refl _)) hW (by omega)⟩
end Go.Proofs.YtdlipbobfgdleaaDoor
/- core.without: a bale without some draws and weighings. -/
namespace Go.Proofs.YtdlipbobfgdleaaDoor
open Go.RowKit Go.Shelf Go.Lib
set_option maxRecDepth 100000
set_option linter.unusedSimpArgs false

theorem contains_any (l : List Int) (v : Value) (x : Int) (w : World) (hs : SlI w v l) :
    Calls Tryd.prog 138 #[v, .int .i64 x] w fun e w' => e = .returned (.bool (l.any fun y => decide (x = y))) ∧ Ext w w' := by
  have HS := Lib.hid hs
  obtain ⟨A, n, c, rfl, hn, hlc, hcm⟩ := hs.form
  have HI := Lib.hid (f82_any l x _ w HS.out)
  clear hs
  go_enter Tryd.func138, Tryd.ntmps138
  go_wp2_with fail
  refine HI.out.mono ?_
  rintro e w1 ⟨rfl, hE⟩
  have HE := Lib.hid hE; clear hE
  go_wp2
  go_ret
  exact ⟨ret_bool (idxF_any _ l), HE.out⟩

theorem f137_any (l : List Int) (A : Option Addr) (n c bl : Nat) (x : Draw) (w : World) (hb : w.cell? ⟨bl, 0, none⟩ = some (.slice A n c)) (hs : SlI w (.slice A n c) l) :
    Calls Tryd.prog 137 #[valD x, .pointer (some ⟨bl, 0, none⟩)] w fun e w' => e = .returned (.bool (l.any fun y => decide (x.number = y))) ∧ Ext w w' := by
  have HS := Lib.hid hs
  have hlt := (is_cells hb).1
  clear hs
  dsimp only [valD]
  go_enter Tryd.func137, Tryd.ntmps137
  go_wp2_with fail
  refine (contains_any l _ x.number _ (HS.out.ext (Ext.al _ _))).mono ?_
  rintro e w1 ⟨rfl, hE⟩
  have HE := Lib.hid ((Ext.al _ _).trans hE); clear hE
  go_wp2
  go_ret
  exact ⟨rfl, HE.out⟩
theorem f140_any (l : List Int) (A : Option Addr) (n c bl : Nat) (x : Weigh) (w : World) (hb : w.cell? ⟨bl, 0, none⟩ = some (.slice A n c)) (hs : SlI w (.slice A n c) l) :
    Calls Tryd.prog 140 #[valW x, .pointer (some ⟨bl, 0, none⟩)] w fun e w' => e = .returned (.bool (l.any fun y => decide (x.number = y))) ∧ Ext w w' := by
  have HS := Lib.hid hs
  have hlt := (is_cells hb).1
  clear hs
  dsimp only [valW]
  go_enter Tryd.func140, Tryd.ntmps140
  go_wp2_with fail
  refine (contains_any l _ x.number _ (HS.out.ext (Ext.al _ _))).mono ?_
  rintro e w1 ⟨rfl, hE⟩
  have HE := Lib.hid ((Ext.al _ _).trans hE); clear hE
  go_wp2
  go_ret
  exact ⟨rfl, HE.out⟩

theorem own_heap {α : Type} {enc : α → List Value} {sz base : Nat} {e : TypeId} {w : World} {v : Value} {l : List α} (h : Own enc e sz w base v l) : ∀ g, v.ownBlock = some g → ∃ cur, w.heap[g]? = some (.cells cur e (0, 0)) := by
  intro g hg
  rcases h.2 with ⟨rfl, _⟩ | ⟨g', cap, cur, rfl, hb, hh, _⟩
  · cases hg
  · simp [Value.ownBlock] at hg
    subst hg
    exact ⟨cur, hh⟩
theorem own_apart {α β : Type} {enc : α → List Value} {enc' : β → List Value} {sz sz' base base' : Nat} {e e' : TypeId} {w w' : World} {v v' : Value} {l : List α} {l' : List β} (h : Own enc e sz w base v l) (h' : Own enc' e' sz' w base' v' l') (hne : e ≠ e') (hg : w.grownBy w' v'.ownBlock) : Own enc e sz w' base v l := by
  refine World.ownsRow.kept h hg ?_
  cases hv : v.ownBlock with
  | none => exact .inl rfl
  | some g =>
    refine .inr fun e1 => ?_
    obtain ⟨cur, h1⟩ := own_heap h g hv
    obtain ⟨cur', h2⟩ := own_heap h' g e1.symm
    rw [h1] at h2
    injection h2 with h2
    injection h2 with _ h2 _
    exact hne h2
theorem own_below {α : Type} {enc : α → List Value} {sz base : Nat} {e : TypeId} {w w' : World} {v : Value} {l : List α} (h : Own enc e sz w base v l) (hb : base ≤ w.heap.size) (hg : w.grownBy w' v.ownBlock) : Below base w w' :=
  (Below.refl base w).grown hg hb (fun k hk => (World.ownsRow.lt h k hk).1)
theorem own_set {α : Type} {enc : α → List Value} {sz base g i : Nat} {e : TypeId} {w : World} {v u : Value} {l : List α} (h : Own enc e sz w base v l) (hg : g < base) : Own enc e sz (w.setCell ⟨g, i, none⟩ u) base v l := h.far hg u
def withB (b : Bale) (l k : List Int) : Bale := ⟨b.id, b.layers, b.dry, b.draws.filter fun x => !(l.any fun y => decide (x.number = y)), b.weighs.filter fun x => !(k.any fun y => decide (x.number = y))⟩

set_option maxHeartbeats 2000000 in
theorem without_any (b : Bale) (l k : List Int) (dv wv lv kv : Value) (w : World) (hd : SlD w dv b.draws) (hw : SlW w wv b.weighs) (hl : SlI w lv l) (hk : SlI w kv k) (hld : b.draws.length ≤ 1000) (hlw : b.weighs.length ≤ 1000) :
    Calls Tryd.prog 107 #[valB b dv wv, lv, kv] w fun e w' => (∃ v, e = .returned v ∧ TwinV (withB b l k) w.heap.size v w') ∧ Ext w w' := by
  have HD := Lib.hid hd; have HW := Lib.hid hw; have HL := Lib.hid hl; have HK := Lib.hid hk
  obtain ⟨A, n, cp, rfl, hn, hlc, hcm⟩ := hd.form
  obtain ⟨A2, n2, cp2, rfl, hn2, hlc2, hcm2⟩ := hw.form
  obtain ⟨A3, n3, cp3, rfl, hn3, hlc3, hcm3⟩ := hl.form
  obtain ⟨A4, n4, cp4, rfl, hn4, hlc4, hcm4⟩ := hk.form
  clear hd hw hl hk
  go_enter Tryd.func107, Tryd.ntmps107
  go_wp2_with fail
  generalize hw4 : ((((w.alloc (.cells #[.int .i64 b.id, .int .i64 b.layers, .int .i64 b.dry.lo, .int .i64 b.dry.hi, .slice A n cp, .slice A2 n2 cp2] 27)).alloc (.cells #[.slice A3 n3 cp3] 56)).alloc (.cells #[.slice A4 n4 cp4] 56)).alloc (.cells #[.int .i64 0, .int .i64 0, .int .i64 0, .int .i64 0, .slice none 0 0, .slice none 0 0] 27)) = w4
  have HE4 := Lib.hid (show Ext w w4 from hw4 ▸ (((Ext.al _ _).alloc _).alloc _).alloc _)
  have hz4 : w4.heap.size = w.heap.size + 4 := by rw [← hw4]; simp
  have HZ4 := Lib.hid hz4
  have HB0 := Lib.hid (show Blk w4 w.heap.size 27 #[.int .i64 b.id, .int .i64 b.layers, .int .i64 b.dry.lo, .int .i64 b.dry.hi, .slice A n cp, .slice A2 n2 cp2] from hw4 ▸ (((Blk.new _ _ _).alloc _).alloc _).alloc _)
  have HB1 := Lib.hid (show Blk w4 (w.heap.size + 1) 56 #[.slice A3 n3 cp3] from hw4 ▸ ((Blk.at_ (by simp)).alloc _).alloc _)
  have HB2 := Lib.hid (show Blk w4 (w.heap.size + 1 + 1) 56 #[.slice A4 n4 cp4] from hw4 ▸ (Blk.at_ (by simp)).alloc _)
  have HB3 := Lib.hid (show Blk w4 (w.heap.size + 1 + 1 + 1) 27 #[.int .i64 0, .int .i64 0, .int .i64 0, .int .i64 0, .slice none 0 0, .slice none 0 0] from hw4 ▸ Blk.at_ (by simp))
  clear hw4 hz4
  refine (copied_any b _ _ _ (HD.out.ext HE4.out) (HW.out.ext HE4.out) hld hlw).mono ?_
  rintro e w5 ⟨⟨v, rfl, dv, wv, rfl, o1, o2⟩, hE5⟩
  obtain ⟨Ad, nd, cd, rfl, -, -, -⟩ := (show SlD w5 dv b.draws from o1.sl (fun _ => rfl)).form
  obtain ⟨Aw, nw, cw, rfl, -, -, -⟩ := (show SlW w5 wv b.weighs from o2.sl (fun _ => rfl)).form
  have O1 := Lib.hid o1; have O2 := Lib.hid o2; have HE5 := Lib.hid hE5
  have HC0 := Lib.hid (HB0.out.ext hE5); have HC1 := Lib.hid (HB1.out.ext hE5); have HC2 := Lib.hid (HB2.out.ext hE5); have HC3 := Lib.hid (HB3.out.ext hE5)
  clear o1 o2 hE5 HB0 HB1 HB2 HB3
  have x0 := HC0.out.cell 0
  have x1 := HC0.out.cell 1
  have x2 := HC0.out.cell 2
  have x3 := HC0.out.cell 3
  have x4 := HC0.out.cell 4
  have x5 := HC0.out.cell 5
  have xl := HC0.out.lt
  have xf := HC0.out.frozen
  simp at x0 x1 x2 x3 x4 x5
  dsimp only [valB]
  go_wp2_with fail
  generalize hw6 : ((((((w5.setCell ⟨w.heap.size, 0, none⟩ (.int .i64 b.id)).setCell ⟨w.heap.size, 1, none⟩ (.int .i64 b.layers)).setCell ⟨w.heap.size, 2, none⟩ (.int .i64 b.dry.lo)).setCell ⟨w.heap.size, 3, none⟩ (.int .i64 b.dry.hi)).setCell ⟨w.heap.size, 4, none⟩ (.slice Ad nd cd)).setCell ⟨w.heap.size, 5, none⟩ (.slice Aw nw cw)) = w6
  have HK6 := Lib.hid (show Blk w6 w.heap.size 27 #[.int .i64 b.id, .int .i64 b.layers, .int .i64 b.dry.lo, .int .i64 b.dry.hi, .slice Ad nd cd, .slice Aw nw cw] from hw6 ▸ HC0.out.set6 _ _ _ _ _ _)
  have hG6 : w5.grownBy w6 (some w.heap.size) := hw6 ▸ grown_set (grown_set (grown_set (grown_set (grown_set (grown_set (World.grownBy.refl _ _) (p := ⟨w.heap.size, 0, none⟩) (.inl rfl) _) (p := ⟨w.heap.size, 1, none⟩) (.inl rfl) _) (p := ⟨w.heap.size, 2, none⟩) (.inl rfl) _) (p := ⟨w.heap.size, 3, none⟩) (.inl rfl) _) (p := ⟨w.heap.size, 4, none⟩) (.inl rfl) _) (p := ⟨w.heap.size, 5, none⟩) (.inl rfl) _
  have hz4 := HZ4.out
  have E6 := Lib.hid (show Ext w w6 from ext_grown (HE4.out.trans HE5.out) hG6 (Nat.le_refl _))
  have hs6 : w4.heap.size ≤ w6.heap.size := Nat.le_trans HE5.out.size hG6.size
  have P1 := Lib.hid (show Own encD 63 4 w6 w4.heap.size (.slice Ad nd cd) b.draws from own_kept O1.out hG6 (by omega))
  have P2 := Lib.hid (show Own encW 65 4 w6 w4.heap.size (.slice Aw nw cw) b.weighs from own_kept O2.out hG6 (by omega))
  have HD1 := Lib.hid (HC1.out.grown hG6 (by intro e; injection e with e; omega)); have HD2 := Lib.hid (HC2.out.grown hG6 (by intro e; injection e with e; omega)); have HD3 := Lib.hid (HC3.out.grown hG6 (by intro e; injection e with e; omega))
  have HF := Lib.hid (f136_any 137 #[.pointer (some ⟨w.heap.size + 1, 0, none⟩)] (enters_of Tryd.func137 (by kernel_rfl) rfl) (fun x => l.any fun y => decide (x.number = y)) b.draws _ w4.heap.size w6 hs6 P1.out
    (fun W x hB => f137_any l A3 n3 cp3 (w.heap.size + 1) x W ((HD1.out.below hB (by omega)).cell 0) (HL.out.ext (Below.trans E6.out (Below.mono hB (by omega))))))
  clear hw6 hG6 HC0 HC1 HC2 HC3 O1 O2 x0 x1 x2 x3 x4 x5 xl xf hz4
  refine HF.out.mono ?_
  rintro e w7 ⟨v7, rfl, q1, G7⟩
  have B7 : Below w4.heap.size w6 w7 := own_below P1.out hs6 G7
  have hz4 := HZ4.out
  have hs7 : w4.heap.size ≤ w7.heap.size := Nat.le_trans hs6 B7.size
  obtain ⟨Ae, ne, ce, rfl, -, -, -⟩ := (show SlD w7 v7 _ from q1.sl (fun _ => rfl)).form
  have Q1 := Lib.hid q1
  have Q2 := Lib.hid (own_apart P2.out P1.out (by decide) G7)
  have HK7 := Lib.hid (HK6.out.below B7 (by omega)); have HF1 := Lib.hid (HD1.out.below B7 (by omega)); have HF2 := Lib.hid (HD2.out.below B7 (by omega)); have HF3 := Lib.hid (HD3.out.below B7 (by omega))
  have E7 := Lib.hid (show Ext w w7 from Below.trans E6.out (Below.mono B7 (by omega)))
  have x0 := HK7.out.cell 0
  have x1 := HK7.out.cell 1
  have x2 := HK7.out.cell 2
  have x3 := HK7.out.cell 3
  have x4 := HK7.out.cell 4
  have x5 := HK7.out.cell 5
  have xl := HK7.out.lt
  have xf := HK7.out.frozen
  simp at x0 x1 x2 x3 x4 x5
  clear HF q1 G7 B7 P1 P2 HK6 HD1 HD2 HD3 hs6 hz4
  go_wp2_with fail
  generalize hw8 : w7.setCell ⟨w.heap.size, 4, none⟩ (.slice Ae ne ce) = w8
  have hz4 := HZ4.out
  have hs8 : w8.heap.size = w7.heap.size := by rw [← hw8]; simp [World.setCell]
  have HK8 := Lib.hid (show Blk w8 w.heap.size 27 #[.int .i64 b.id, .int .i64 b.layers, .int .i64 b.dry.lo, .int .i64 b.dry.hi, .slice Ae ne ce, .slice Aw nw cw] from hw8 ▸ (by have := HK7.out.set_ 4 (.slice Ae ne ce); simpa using this))
  have HG1 := Lib.hid (show Blk w8 (w.heap.size + 1) 56 #[.slice A3 n3 cp3] from hw8 ▸ HF1.out.far (by dsimp only; omega) _)
  have HG2 := Lib.hid (show Blk w8 (w.heap.size + 1 + 1) 56 #[.slice A4 n4 cp4] from hw8 ▸ HF2.out.far (by dsimp only; omega) _)
  have HG3 := Lib.hid (show Blk w8 (w.heap.size + 1 + 1 + 1) 27 _ from hw8 ▸ HF3.out.far (by dsimp only; omega) _)
  have E8 := Lib.hid (show Ext w w8 from hw8 ▸ E7.out.setCell (Nat.le_refl _) _)
  have R1 := Lib.hid (show Own encD 63 4 w8 w4.heap.size (.slice Ae ne ce) _ from hw8 ▸ own_set Q1.out (by omega))
  have R2 := Lib.hid (show Own encW 65 4 w8 w4.heap.size (.slice Aw nw cw) b.weighs from hw8 ▸ own_set Q2.out (by omega))
  have HF := Lib.hid (f139_any 140 #[.pointer (some ⟨w.heap.size + 1 + 1, 0, none⟩)] (enters_of Tryd.func140 (by kernel_rfl) rfl) (fun x => k.any fun y => decide (x.number = y)) b.weighs _ w4.heap.size w8 (by omega) R2.out
    (fun W x hB => f140_any k A4 n4 cp4 (w.heap.size + 1 + 1) x W ((HG2.out.below hB (by omega)).cell 0) (HK.out.ext (Below.trans E8.out (Below.mono hB (by omega))))))
  clear hw8 HF1 HF2 HF3 HK7 Q1 Q2 E7 x0 x1 x2 x3 x4 x5 xl xf hz4
  refine HF.out.mono ?_
  rintro e w9 ⟨v9, rfl, q2, G9⟩
  have B9 : Below w4.heap.size w8 w9 := own_below R2.out (by omega) G9
  have hz4 := HZ4.out
  obtain ⟨Af, nf, cf, rfl, -, -, -⟩ := (show SlW w9 v9 _ from q2.sl (fun _ => rfl)).form
  have Q2 := Lib.hid q2
  have Q1 := Lib.hid (own_apart R1.out R2.out (by decide) G9)
  have HK9 := Lib.hid (HK8.out.below B9 (by omega)); have HF3 := Lib.hid (HG3.out.below B9 (by omega))
  have E9 := Lib.hid (show Ext w w9 from Below.trans E8.out (Below.mono B9 (by omega)))
  have x0 := HK9.out.cell 0
  have x1 := HK9.out.cell 1
  have x2 := HK9.out.cell 2
  have x3 := HK9.out.cell 3
  have x4 := HK9.out.cell 4
  have x5 := HK9.out.cell 5
  have xl := HK9.out.lt
  have xf := HK9.out.frozen
  have t0 := HF3.out.cell 0
  have t1 := HF3.out.cell 1
  have t2 := HF3.out.cell 2
  have t3 := HF3.out.cell 3
  have t4 := HF3.out.cell 4
  have t5 := HF3.out.cell 5
  have tl := HF3.out.lt
  have tf := HF3.out.frozen
  simp at x0 x1 x2 x3 x4 x5 t0 t1 t2 t3 t4 t5
  clear HF q2 G9 B9 R1 R2 HK8 HG1 HG2 HG3 hz4
  go_wp2_with fail
  have hz4 := HZ4.out
  have HB9 : Blk (w9.setCell ⟨w.heap.size, 5, none⟩ (.slice Af nf cf)) (w.heap.size + 1 + 1 + 1) 27 #[.int .i64 0, .int .i64 0, .int .i64 0, .int .i64 0, .slice none 0 0, .slice none 0 0] := HF3.out.far (by dsimp only; omega) _
  refine ret_set6 HB9 fun W' ⟨b0, b1, b2, b3, b4, b5⟩ hW => ?_
  refine bodyPost_ret (v := valB b (.slice Ae ne ce) (.slice Af nf cf)) (by simp [results, Tryd.results107, go_sem, b0, b1, b2, b3, b4, b5]) rfl ?_
  refine ⟨⟨_, rfl, ⟨.slice Ae ne ce, .slice Af nf cf, rfl, ?_, ?_⟩⟩, ext_grown (E9.out.setCell (Nat.le_refl _) _) hW (by omega)⟩
  · exact own_mono (own_kept (own_set Q1.out (by omega)) hW (by omega)) (by omega)
  · exact own_mono (own_kept (own_set Q2.out (by omega)) hW (by omega)) (by omega)
end Go.Proofs.YtdlipbobfgdleaaDoor
/- core.Wrong: the draws and weighings that must be false. -/
namespace Go.Proofs.YtdlipbobfgdleaaDoor
open Go.RowKit Go.Shelf Go.Lib
set_option maxRecDepth 100000
set_option linter.unusedSimpArgs false

/-- A bale lies whole in block g. -/
structure BaleAt (b : Bale) (g : Nat) (dv wv : Value) (W : World) : Prop where
  k : Blk W g 27 #[.int .i64 b.id, .int .i64 b.layers, .int .i64 b.dry.lo, .int .i64 b.dry.hi, dv, wv]
  d : SlD W dv b.draws
  w : SlW W wv b.weighs
theorem BaleAt.ext {b : Bale} {g : Nat} {dv wv : Value} {W W' : World} (h : BaleAt b g dv wv W) (e : Ext W W') : BaleAt b g dv wv W' := ⟨h.k.ext e, h.d.ext e, h.w.ext e⟩
theorem withB_bds {b : Bale} (h : Bds b) (l k : List Int) : ∀ x ∈ (withB b l k).weighs, 0 ≤ x.damp.lo ∧ x.damp.lo ≤ 1000000 ∧ 0 ≤ x.damp.hi ∧ x.damp.hi ≤ 1000000 := fun x hx => by
  have := h.w x (List.mem_filter.1 hx).1
  omega

set_option maxHeartbeats 1000000 in
theorem f106_any (b : Bale) (l : List Int) (v dv wv : Value) (g : Nat) (w : World) (hv : valid b = true) (hB : BaleAt b g dv wv w) (hl : SlI w v l) :
    Calls Tryd.prog 106 #[v, .pointer (some ⟨g, 0, none⟩)] w fun e w' => e = .returned (.bool (grown (spans (withB b l [])))) ∧ Ext w w' := by
  have HB := Lib.hid hB
  have hb := valid_bds hv
  have HL := Lib.hid hl
  obtain ⟨A, n, cp, rfl, hn, hlc, hcm⟩ := hB.d.form
  obtain ⟨A2, n2, cp2, rfl, hn2, hlc2, hcm2⟩ := hB.w.form
  obtain ⟨A3, n3, cp3, rfl, hn3, hlc3, hcm3⟩ := hl.form
  have x0 := hB.k.cell 0
  have x1 := hB.k.cell 1
  have x2 := hB.k.cell 2
  have x3 := hB.k.cell 3
  have x4 := hB.k.cell 4
  have x5 := hB.k.cell 5
  simp at x0 x1 x2 x3 x4 x5
  have HBD := Lib.hid hb
  clear hB hl hb
  go_enter Tryd.func106, Tryd.ntmps106
  go_wp2_with fail
  refine (without_any b l [] _ _ _ _ w HB.out.d HB.out.w HL.out (Sl.nil _) (by have := HBD.out.nd; omega) (by have := HBD.out.nw; omega)).mono ?_
  rintro e w1 ⟨⟨v1, rfl, dv1, wv1, rfl, o1, o2⟩, hE1⟩
  obtain ⟨Ad, nd, cd, rfl, -, -, -⟩ := (show SlD w1 dv1 _ from o1.sl (fun _ => rfl)).form
  obtain ⟨Aw, nw, cw, rfl, -, -, -⟩ := (show SlW w1 wv1 _ from o2.sl (fun _ => rfl)).form
  have HD1 := Lib.hid (show SlD w1 (.slice Ad nd cd) (withB b l []).draws from o1.sl (fun _ => rfl))
  have HW1 := Lib.hid (show SlW w1 (.slice Aw nw cw) (withB b l []).weighs from o2.sl (fun _ => rfl))
  have HE1 := Lib.hid hE1
  clear o1 o2 hE1 x0 x1 x2 x3 x4 x5
  dsimp only [valB]
  go_wp2_with fail
  refine (opened_any (withB b l []) _ _ w1 HD1.out HW1.out HBD.out.l1 HBD.out.l5 HBD.out.lo HBD.out.lh HBD.out.hi (withB_bds HBD.out l [])).mono ?_
  rintro e w2 ⟨sv, lv, rfl, s1, s2, hE2⟩
  have hs1 : SlS w2 sv (spans (withB b l [])) := s1.sl (fun _ => rfl)
  have hs2 : SlI w2 lv (dries (withB b l [])) := s2.sl (fun _ => rfl)
  obtain ⟨As, ns, cs, rfl, -, -, -⟩ := hs1.form
  obtain ⟨Al, nl, cl, rfl, -, -, -⟩ := hs2.form
  have HS := Lib.hid hs1; have HL2 := Lib.hid hs2
  have HD2 := Lib.hid (HD1.out.ext hE2); have HW2 := Lib.hid (HW1.out.ext hE2); have HE2 := Lib.hid (HE1.out.trans hE2)
  clear s1 s2 hs1 hs2 hE2
  dsimp only [valP, withB]
  go_wp2_with fail
  refine (grown_any (withB b l []) _ _ _ _ (spans (withB b l [])) (dries (withB b l [])) _ (HD2.out.ext (Ext.al _ _)) (HW2.out.ext (Ext.al _ _)) (HS.out.ext (Ext.al _ _)) (HL2.out.ext (Ext.al _ _))).mono ?_
  rintro e w3 ⟨rfl, hE3⟩
  have HE3 := Lib.hid ((HE2.out.alloc _).trans hE3)
  clear hE3
  go_wp2
  go_ret
  exact ⟨rfl, HE3.out⟩

set_option maxHeartbeats 1000000 in
theorem f109_any (b : Bale) (l : List Int) (v dv wv : Value) (g : Nat) (w : World) (hv : valid b = true) (hB : BaleAt b g dv wv w) (hl : SlI w v l) :
    Calls Tryd.prog 109 #[v, .pointer (some ⟨g, 0, none⟩)] w fun e w' => e = .returned (.bool (decide (0 < (dries (withB b [] l)).length))) ∧ Ext w w' := by
  have HB := Lib.hid hB
  have hb := valid_bds hv
  have HL := Lib.hid hl
  obtain ⟨A, n, cp, rfl, hn, hlc, hcm⟩ := hB.d.form
  obtain ⟨A2, n2, cp2, rfl, hn2, hlc2, hcm2⟩ := hB.w.form
  obtain ⟨A3, n3, cp3, rfl, hn3, hlc3, hcm3⟩ := hl.form
  have x0 := hB.k.cell 0
  have x1 := hB.k.cell 1
  have x2 := hB.k.cell 2
  have x3 := hB.k.cell 3
  have x4 := hB.k.cell 4
  have x5 := hB.k.cell 5
  simp at x0 x1 x2 x3 x4 x5
  have HBD := Lib.hid hb
  clear hB hl hb
  go_enter Tryd.func109, Tryd.ntmps109
  go_wp2_with fail
  refine (without_any b [] l _ _ _ _ w HB.out.d HB.out.w (Sl.nil _) HL.out (by have := HBD.out.nd; omega) (by have := HBD.out.nw; omega)).mono ?_
  rintro e w1 ⟨⟨v1, rfl, dv1, wv1, rfl, o1, o2⟩, hE1⟩
  obtain ⟨Ad, nd, cd, rfl, -, -, -⟩ := (show SlD w1 dv1 _ from o1.sl (fun _ => rfl)).form
  obtain ⟨Aw, nw, cw, rfl, -, -, -⟩ := (show SlW w1 wv1 _ from o2.sl (fun _ => rfl)).form
  have HD1 := Lib.hid (show SlD w1 (.slice Ad nd cd) (withB b [] l).draws from o1.sl (fun _ => rfl))
  have HW1 := Lib.hid (show SlW w1 (.slice Aw nw cw) (withB b [] l).weighs from o2.sl (fun _ => rfl))
  have HE1 := Lib.hid hE1
  clear o1 o2 hE1 x0 x1 x2 x3 x4 x5
  dsimp only [valB]
  go_wp2_with fail
  refine (opened_any (withB b [] l) _ _ w1 HD1.out HW1.out HBD.out.l1 HBD.out.l5 HBD.out.lo HBD.out.lh HBD.out.hi (withB_bds HBD.out [] l)).mono ?_
  rintro e w2 ⟨sv, lv, rfl, s1, s2, hE2⟩
  have hs1 : SlS w2 sv (spans (withB b [] l)) := s1.sl (fun _ => rfl)
  have hs2 : SlI w2 lv (dries (withB b [] l)) := s2.sl (fun _ => rfl)
  obtain ⟨As, ns, cs, rfl, -, -, -⟩ := hs1.form
  obtain ⟨Al, nl, cl, rfl, hnl, -, -⟩ := hs2.form
  have HE2 := Lib.hid (HE1.out.trans hE2)
  clear s1 s2 hs1 hs2 hE2
  dsimp only [valP, withB]
  go_wp2
  go_ret
  exact ⟨by rw [← hnl.out]; rfl, HE2.out.alloc _⟩

/-- What must be false, draws and weighings. -/
def wrongD (b : Bale) : Option (List Int) := (listsL (b.draws.map (·.number)) 3).find? fun l => grown (spans (withB b l []))
def wrongW (b : Bale) : Option (List Int) := (listsL (b.weighs.map (·.number)) 3).find? fun l => decide (0 < (dries (withB b [] l)).length)
def wrongE (b : Bale) : Int := if valid b then (if (wrongD b).isSome && (wrongW b).isSome then 0 else 4) else 30
def wrongL (b : Bale) : List Int := if wrongE b = 0 then (wrongD b).getD [] else []
def wrongK (b : Bale) : List Int := if wrongE b = 0 then (wrongW b).getD [] else []

/-- A slice of numbers, as the enumerator reads it. -/
theorem sl_at {W : World} {A : Option Addr} {n c : Nat} {l : List Int} (h : SlI W (.slice A n c) l) : ∀ i x, l[i]? = some x → ∃ bb off, A = some ⟨bb, off, none⟩ ∧ W.cell? ⟨bb, off + i, none⟩ = some (.int .i64 x) := by
  intro i x hx
  have hi : i < n := by
    have h1 := (List.getElem?_eq_some_iff.1 hx).1
    obtain ⟨_, _, e, _⟩ := h
    injection e with _ e _
    omega
  obtain ⟨bb, off, y, e1, hy, hbb, hc⟩ := h.at_ hi
  rw [hx] at hy
  injection hy with hy
  subst hy
  exact ⟨bb, off, e1, SlI.cell hc (Ext.refl _)⟩

set_option maxHeartbeats 2000000 in
theorem wrong_any (b : Bale) (dv wv : Value) (w : World) (hT : Tab w) (hd : SlD w dv b.draws) (hw : SlW w wv b.weighs) :
    Calls Tryd.prog 46 #[valB b dv wv] w fun e w' => ∃ v1 v2, e = .returned (.tuple #[v1, v2, .int .i64 (wrongE b)]) ∧ SlI w' v1 (wrongL b) ∧ SlI w' v2 (wrongK b) ∧ Ext w w' := by
  have HT := Lib.hid hT
  have HD := Lib.hid hd
  have HW := Lib.hid hw
  obtain ⟨A, n, cp, rfl, hn, hlc, hcm⟩ := hd.form
  obtain ⟨A2, n2, cp2, rfl, hn2, hlc2, hcm2⟩ := hw.form
  clear hd hw hT
  go_enter Tryd.func46, Tryd.ntmps46
  go_wp2_with fail
  refine (check_any b _ _ _ (HT.out.ext (Ext.al _ _)) (HD.out.ext (Ext.al _ _)) (HW.out.ext (Ext.al _ _))).mono ?_
  rintro e w1 ⟨rfl, hE⟩
  have HE1 := Lib.hid ((Ext.al w _).trans hE)
  have HB1 := Lib.hid (show BaleAt b w.heap.size (.slice A n cp) (.slice A2 n2 cp2) w1 from ⟨(Blk.new _ _ _).ext hE, HD.out.ext ((Ext.al _ _).trans hE), HW.out.ext ((Ext.al _ _).trans hE)⟩)
  clear hE
  cases hv : valid b with
  | false =>
    have HV := Lib.hid (show wrongE b = 30 by unfold wrongE; rw [hv]; rfl)
    have HV1 := Lib.hid (show wrongL b = [] by unfold wrongL; rw [HV.out]; rfl)
    have HV2 := Lib.hid (show wrongK b = [] by unfold wrongK; rw [HV.out]; rfl)
    clear hv
    show _
    dsimp only [errB]
    go_wp2
    refine bodyPost_ret (v := .tuple #[.slice none 0 0, .slice none 0 0, .int .i64 30]) (by simp [results, Tryd.results46, go_sem]) rfl ?_
    exact ⟨_, _, by rw [HV.out], by rw [HV1.out]; exact Sl.nil _, by rw [HV2.out]; exact Sl.nil _, HE1.out⟩
  | true =>
    have HV := Lib.hid hv
    have HBD := Lib.hid (valid_bds hv)
    have HVE := Lib.hid (show wrongE b = if (wrongD b).isSome && (wrongW b).isSome then 0 else 4 by unfold wrongE; rw [hv]; rfl)
    clear hv
    have x0 := HB1.out.k.cell 0
    have x1 := HB1.out.k.cell 1
    have x2 := HB1.out.k.cell 2
    have x3 := HB1.out.k.cell 3
    have x4 := HB1.out.k.cell 4
    have x5 := HB1.out.k.cell 5
    have xl := HB1.out.k.lt
    simp at x0 x1 x2 x3 x4 x5
    dsimp only [errB]
    go_wp2_with fail
    refine (f105_any b _ _ w1 HB1.out.d HB1.out.w (by have := HBD.out.nd; omega)).mono ?_
    rintro e w2 ⟨v2, rfl, hs2, hE2⟩
    obtain ⟨A3, n3, c3, rfl, hn3, -, -⟩ := hs2.form
    have HS2 := Lib.hid hs2; have HE2 := Lib.hid hE2
    clear hs2 hE2
    go_wp2_with fail
    refine (lists_any A3 n3 c3 3 w2).mono ?_
    rintro e w3 ⟨rfl, hw3⟩
    have E3 : Ext w2 w3 := by rw [hw3]; exact (Ext.al _ _).alloc _
    have hb0 : Blk w3 w2.heap.size 56 #[.slice A3 n3 c3] := by rw [hw3]; exact (Blk.new _ _ _).alloc _
    have hb1 : Blk w3 (w2.heap.size + 1) 3 #[.int .i64 3] := by rw [hw3]; exact Blk.at_ (by simp)
    have hn3' : n3 = (b.draws.map (·.number)).length := hn3.out
    have HB3 := Lib.hid (HB1.out.ext (HE2.out.trans E3))
    have HFI := Lib.hid (first_any (gf := 133) (tf := 106) (lb := #[.pointer (some ⟨w2.heap.size, 0, none⟩), .pointer (some ⟨w2.heap.size + 1, 0, none⟩)]) (fi := #[]) (tlb := #[.pointer (some ⟨w.heap.size, 0, none⟩)]) (w := w3)
      (p := fun l => grown (spans (withB b l []))) (enters_of Tryd.func133 (by kernel_rfl) rfl) (enters_of Tryd.func106 (by kernel_rfl) rfl)
      (lists_seqs (ba := w2.heap.size) (bm := w2.heap.size + 1) (ca := c3) (n₀ := w3.heap.size) (X := fun _ => False) (A := A3) (all := b.draws.map (·.number)) (most := 3) (w := w3) (by rw [List.length_map]; have := HBD.out.nd; omega) (fun _ h => h.elim) id (fun _ _ _ => id) (Nat.le_refl _)
        (by rw [← hn3']; exact hb0.cell 0) (sl_at (HS2.out.ext E3)) (hb1.cell 0))
      (fun x hx v W hB hv => f106_any b x v _ _ _ W HV.out (HB3.out.ext hB) hv))
    have HE3 := Lib.hid (HE1.out.trans (HE2.out.trans E3))
    clear hw3 E3 hb0 hb1 hn3' HS2 x0 x1 x2 x3 x4 x5 xl
    go_wp2_with fail
    refine HFI.out.mono ?_
    rintro e w4 ⟨va, rfl, hva, hE4⟩
    have HVA := Lib.hid hva
    have HE4 := Lib.hid (HE3.out.trans hE4)
    have HB4 := Lib.hid (HB3.out.ext hE4)
    clear hva hE4 HFI
    rw [show (List.find? (fun l => grown (spans (withB b l []))) (listsL (List.map (fun x => x.number) b.draws) 3)) = wrongD b from rfl]
    have x0 := HB4.out.k.cell 0
    have x1 := HB4.out.k.cell 1
    have x2 := HB4.out.k.cell 2
    have x3 := HB4.out.k.cell 3
    have x4 := HB4.out.k.cell 4
    have x5 := HB4.out.k.cell 5
    have xl := HB4.out.k.lt
    simp at x0 x1 x2 x3 x4 x5
    go_wp2_with fail
    refine (f83_any b _ _ w4 HB4.out.d HB4.out.w (by have := HBD.out.nw; omega)).mono ?_
    rintro e w5 ⟨v5, rfl, hs5, hE5⟩
    obtain ⟨A5, n5, c5, rfl, hn5, -, -⟩ := hs5.form
    have HS5 := Lib.hid hs5; have HE5 := Lib.hid hE5
    clear hs5 hE5
    go_wp2_with fail
    refine (lists_any A5 n5 c5 3 w5).mono ?_
    rintro e w6 ⟨rfl, hw6⟩
    have E6 : Ext w5 w6 := by rw [hw6]; exact (Ext.al _ _).alloc _
    have hb0 : Blk w6 w5.heap.size 56 #[.slice A5 n5 c5] := by rw [hw6]; exact (Blk.new _ _ _).alloc _
    have hb1 : Blk w6 (w5.heap.size + 1) 3 #[.int .i64 3] := by rw [hw6]; exact Blk.at_ (by simp)
    have hn5' : n5 = (b.weighs.map (·.number)).length := hn5.out
    have HB6 := Lib.hid (HB4.out.ext (HE5.out.trans E6))
    have HFI := Lib.hid (first_any (gf := 133) (tf := 109) (lb := #[.pointer (some ⟨w5.heap.size, 0, none⟩), .pointer (some ⟨w5.heap.size + 1, 0, none⟩)]) (fi := #[]) (tlb := #[.pointer (some ⟨w.heap.size, 0, none⟩)]) (w := w6)
      (p := fun l => decide (0 < (dries (withB b [] l)).length)) (enters_of Tryd.func133 (by kernel_rfl) rfl) (enters_of Tryd.func109 (by kernel_rfl) rfl)
      (lists_seqs (ba := w5.heap.size) (bm := w5.heap.size + 1) (ca := c5) (n₀ := w6.heap.size) (X := fun _ => False) (A := A5) (all := b.weighs.map (·.number)) (most := 3) (w := w6) (by rw [List.length_map]; have := HBD.out.nw; omega) (fun _ h => h.elim) id (fun _ _ _ => id) (Nat.le_refl _)
        (by rw [← hn5']; exact hb0.cell 0) (sl_at (HS5.out.ext E6)) (hb1.cell 0))
      (fun x hx v W hB hv => f109_any b x v _ _ _ W HV.out (HB6.out.ext hB) hv))
    have HE6 := Lib.hid (HE4.out.trans (HE5.out.trans E6))
    have HVA6 := Lib.hid (HVA.out.ext (HE5.out.trans E6))
    clear hw6 E6 hb0 hb1 hn5' HS5 x0 x1 x2 x3 x4 x5 xl
    go_wp2_with fail
    refine HFI.out.mono ?_
    rintro e w7 ⟨vb, rfl, hvb, hE7⟩
    have HVB := Lib.hid hvb
    have HE7 := Lib.hid (HE6.out.trans hE7)
    have HVA7 := Lib.hid (HVA6.out.ext hE7)
    clear hvb hE7 HFI
    rw [show (List.find? (fun l => decide (0 < (dries (withB b [] l)).length)) (listsL (List.map (fun x => x.number) b.weighs) 3)) = wrongW b from rfl]
    have HVA8 := Lib.hid (show SlI w7 va ((wrongD b).getD []) from HVA7.out)
    have HVB8 := Lib.hid (show SlI w7 vb ((wrongW b).getD []) from HVB.out)
    have HVL := Lib.hid (show wrongL b = if wrongE b = 0 then (wrongD b).getD [] else [] from rfl)
    have HVK := Lib.hid (show wrongK b = if wrongE b = 0 then (wrongW b).getD [] else [] from rfl)
    clear HVA HVA6 HVA7 HVB
    generalize wrongD b = od at *
    generalize wrongW b = ow at *
    cases od with
    | none =>
      have HE := Lib.hid (show wrongE b = 4 by rw [HVE.out]; rfl)
      go_wp2
      refine bodyPost_ret (v := .tuple #[.slice none 0 0, .slice none 0 0, .int .i64 4]) (by simp [results, Tryd.results46, go_sem]) rfl ?_
      exact ⟨_, _, by rw [HE.out], by rw [HVL.out, HE.out]; exact Sl.nil _, by rw [HVK.out, HE.out]; exact Sl.nil _, HE7.out⟩
    | some ld =>
      cases ow with
      | none =>
        have HE := Lib.hid (show wrongE b = 4 by rw [HVE.out]; rfl)
        go_wp2
        refine bodyPost_ret (v := .tuple #[.slice none 0 0, .slice none 0 0, .int .i64 4]) (by simp [results, Tryd.results46, go_sem]) rfl ?_
        exact ⟨_, _, by rw [HE.out], by rw [HVL.out, HE.out]; exact Sl.nil _, by rw [HVK.out, HE.out]; exact Sl.nil _, HE7.out⟩
      | some lw =>
        have HE := Lib.hid (show wrongE b = 0 by rw [HVE.out]; rfl)
        go_wp2
        refine bodyPost_ret (v := .tuple #[va, vb, .int .i64 0]) (by simp [results, Tryd.results46, go_sem]) rfl ?_
        exact ⟨_, _, by rw [HE.out], by rw [HVL.out, HE.out]; exact HVA8.out, by rw [HVK.out, HE.out]; exact HVB8.out, HE7.out⟩
end Go.Proofs.YtdlipbobfgdleaaDoor
/- A map whose keys are five numbers each, as a function from lists. -/
namespace Go.Proofs.YtdlipbobfgdleaaDoor
open Go.RowKit Go.Shelf
set_option maxRecDepth 100000
set_option linter.unusedSimpArgs false

theorem mg_laid : laidOutB Tryd.prog = true := by kernel_rfl
theorem mg_row : (127 : TypeId) < Tryd.prog.types.size := of_decide_eq_true (by kernel_rfl)
theorem mg_wide : (match Tryd.prog.underlying 127 with | some (.array _ _) | some (.struct _) => true | _ => false) = true := by rw [Tryd.underlying127]
theorem mg_law : Maps.Keyed Tryd.prog 127 := Maps.Keyed.of_law (deep_law_laid mg_laid (m := 2) (by omega) mg_row (by kernel_rfl) mg_wide)
theorem mg_key : Tryd.prog.keyType 127 = true := by kernel_rfl
theorem mg_cells : Tryd.prog.cellsOf 127 = 5 := by kernel_rfl
theorem mg_cell : Tryd.prog.cellsOf 3 = 1 := by kernel_rfl
theorem mg_types : ∃ n, Tryd.prog.types.size + 1 = n + 2 := ⟨Tryd.prog.types.size - 1, by have h : 0 < Tryd.prog.types.size := Nat.lt_of_le_of_lt (Nat.zero_le _) mg_row; omega⟩

def agg5 (l : List Int) : Value := .agg (l.map (Value.int .i64)).toArray
def K5 (l : List Int) : Prop := l.length = 5 ∧ ∀ n ∈ l, 0 ≤ n ∧ n ≤ 9
theorem agg5_inj {l l' : List Int} (h : agg5 l = agg5 l') : l = l' := by
  unfold agg5 at h
  injection h with h
  have h2 := congrArg Array.toList h
  simp only at h2
  exact (List.map_inj_right (fun a b e => by injection e)).1 h2
theorem small_wf {n : Int} (h : 0 ≤ n ∧ n ≤ 9) : (Lit.int .i64 n).wf = true := by
  have : n = 0 ∨ n = 1 ∨ n = 2 ∨ n = 3 ∨ n = 4 ∨ n = 5 ∨ n = 6 ∨ n = 7 ∨ n = 8 ∨ n = 9 := by omega
  rcases this with rfl | rfl | rfl | rfl | rfl | rfl | rfl | rfl | rfl | rfl <;> decide
theorem lits_one (n : Nat) {a : Int} (h : (Lit.int .i64 a).wf = true) : Tryd.prog.keyLits (n + 1) 3 [.int .i64 a] = some [.int .i64 a] := by
  unfold Program.keyLits
  rw [Tryd.underlying3]
  simp only [h, and_self, if_true]
theorem lits_five (n : Nat) {a b c d e : Int} (wa : (Lit.int .i64 a).wf = true) (wb : (Lit.int .i64 b).wf = true) (wc : (Lit.int .i64 c).wf = true) (wd : (Lit.int .i64 d).wf = true) (we : (Lit.int .i64 e).wf = true) :
    Tryd.prog.keyLits (n + 2) 127 [.int .i64 a, .int .i64 b, .int .i64 c, .int .i64 d, .int .i64 e] = some [.int .i64 a, .int .i64 b, .int .i64 c, .int .i64 d, .int .i64 e] := by
  unfold Program.keyLits
  rw [Tryd.underlying127]
  have hr : List.range 5 = [0, 1, 2, 3, 4] := by decide
  simp only [mg_cells, mg_cell, List.length_cons, List.length_nil, Nat.zero_add, Nat.reduceAdd, if_true, hr, List.mapM_cons, List.mapM_nil, Nat.mul_one, List.drop_zero, List.drop_succ_cons, List.take_succ_cons, List.take_zero, lits_one n wa, lits_one n wb, lits_one n wc, lits_one n wd, lits_one n we, Option.bind_eq_bind, Option.bind_some, Option.pure_def, Option.map_some, List.flatten_cons, List.flatten_nil, List.cons_append, List.nil_append]
theorem key_some {l : List Int} (h : K5 l) : ∃ kl, keyOf Tryd.prog 127 (agg5 l) = some kl := by
  obtain ⟨hl, hb⟩ := h
  match l, hl with
  | [a, b, c, d, e], _ =>
    obtain ⟨n, hn⟩ := mg_types
    have wa := small_wf (hb a (by simp))
    have wb := small_wf (hb b (by simp))
    have wc := small_wf (hb c (by simp))
    have wd := small_wf (hb d (by simp))
    have we := small_wf (hb e (by simp))
    refine ⟨.string (keyBytes [.int .i64 a, .int .i64 b, .int .i64 c, .int .i64 d, .int .i64 e]), ?_⟩
    have hf : (agg5 [a, b, c, d, e]).formed Tryd.prog 127 = true := by
      unfold agg5 Value.formed
      simp only [Tryd.underlying127, mg_cells]
      rfl
    unfold keyOf
    rw [Tryd.underlying127]
    simp only [mg_key, hf, Bool.and_self, if_true, hn]
    show (Program.keyLits Tryd.prog (n + 2) 127 [.int .i64 a, .int .i64 b, .int .i64 c, .int .i64 d, .int .i64 e]).map _ = _
    rw [lits_five n wa wb wc wd we]
    rfl

def MapG (W : World) (m n : Nat) (g : List Int → Option Int) : Prop :=
  ∃ D : DataW Unit, W.ownsMap Tryd.prog 127 (plainElem Tryd.prog 3) m n D ∧ ∀ l, K5 l → ∀ kl, keyOf Tryd.prog 127 (agg5 l) = some kl → Maps.has D kl = (g l).isSome ∧ ∀ v, g l = some v → ∀ z, D.atKey kl z = .lit (.int .i64 v)
theorem MapG.made (w : World) : MapG (w.alloc (.map #[] 0)) w.heap.size 0 (fun _ => none) :=
  ⟨.map [], World.ownsMap_made w _ _ _, fun l _ kl _ => ⟨rfl, fun v h => by cases h⟩⟩
theorem MapG.lt {W : World} {m n : Nat} {g : List Int → Option Int} (h : MapG W m n g) : m < W.heap.size := by
  obtain ⟨D, h, _⟩ := h
  exact World.ownsMap.lt h
theorem MapG.at_ {W W' : World} {m n : Nat} {g : List Int → Option Int} (h : MapG W m n g) (e : W'.heap[m]? = W.heap[m]?) : MapG W' m n g := by
  obtain ⟨D, ⟨es, clock, hb, F, hs, hD⟩, hg⟩ := h
  exact ⟨D, ⟨es, clock, e.trans hb, F, hs, hD⟩, hg⟩
theorem MapG.ext {W W' : World} {m n : Nat} {g : List Int → Option Int} (h : MapG W m n g) (e : Ext W W') : MapG W' m n g := h.at_ (e.block m h.lt)
theorem MapG.noCells {W : World} {m n : Nat} {g : List Int → Option Int} (h : MapG W m n g) : ¬ ∃ c t f, W.heap[m]? = some (.cells c t f) := by
  obtain ⟨D, ⟨es, clock, hb, _⟩, _⟩ := h
  rintro ⟨c, t, f, h⟩
  rw [hb] at h
  cases h
theorem MapG.store {W : World} {m n : Nat} {g : List Int → Option Int} (h : MapG W m n g) {l : List Int} (hl : K5 l) (hn : n < 100000000) {v : Int} (hv : 0 ≤ v ∧ v ≤ 9) :
    ∃ W', (Instr.mapUpdate 161 (.map (some m)) (agg5 l) (.int .i64 v)).run Tryd.prog W = .ok () W' ∧ MapG W' m (n + 1) (fun x => if x = l then some v else g x) ∧ W.grownBy W' (some m) := by
  obtain ⟨D, ho, hg⟩ := h
  obtain ⟨kl, hk⟩ := key_some hl
  obtain ⟨W', hr, ho', ht⟩ := ho.store mg_law Tryd.underlying161 (by unfold maxLen; omega) hk (plainElem_int Tryd.underlying3 (small_wf hv))
  refine ⟨W', hr, ⟨_, ho', fun x hx kx hkx => ?_⟩, ht.grown⟩
  have hkey := mg_law.key hk
  by_cases hxl : x = l
  · subst hxl
    rw [hk] at hkx
    injection hkx with hkx
    subst hkx
    refine ⟨by rw [Maps.has_put_same ho.isMap hkey]; simp, fun u hu z => ?_⟩
    simp at hu
    subst hu
    exact Maps.atKey_put_same ho.isMap hkey _ _
  · have hne : kx ≠ kl := fun e => hxl (agg5_inj (mg_law.inj hkx (e ▸ hk)))
    obtain ⟨h1, h2⟩ := hg x hx kx hkx
    refine ⟨by rw [Maps.has_put_other hne, h1]; simp [hxl], fun u hu z => ?_⟩
    simp only [hxl, if_false] at hu
    rw [Maps.atKey_put_other hne]
    exact h2 u hu z
theorem MapG.look {W : World} {m n : Nat} {g : List Int → Option Int} (h : MapG W m n g) {l : List Int} (hl : K5 l) :
    ∃ v : Int, (Instr.lookup 161 (.map (some m)) (agg5 l) true).run Tryd.prog W = .ok (.tuple #[.int .i64 v, .bool (g l).isSome]) W ∧ ∀ u, g l = some u → v = u := by
  obtain ⟨D, ho, hg⟩ := h
  obtain ⟨kl, hk⟩ := key_some hl
  obtain ⟨h1, h2⟩ := hg l hl kl hk
  obtain ⟨v, ps, hr, hv⟩ := ho.look_ok mg_law Tryd.underlying161 (Tryd.zeroValue3 W) (plainElem_int Tryd.underlying3 (by decide)) hk
  obtain ⟨c, rfl, hc, _⟩ := plainElem_int_inv Tryd.underlying3 hv
  rw [h1] at hr
  refine ⟨c, hr, fun u hu => ?_⟩
  have := h2 u hu (.lit (.int .i64 0))
  simp only [Prod.mk.injEq] at hc
  rw [this] at hc
  injection hc.1 with hc
  injection hc with _ hc
  exact hc.symm
end Go.Proofs.YtdlipbobfgdleaaDoor
/- core's decides: whether the draws of some layers decide. -/
namespace Go.Proofs.YtdlipbobfgdleaaDoor
open Go.RowKit Go.Shelf Go.Lib
set_option maxRecDepth 100000
set_option linter.unusedSimpArgs false
attribute [local go_sem] Oper.semAt_some

/-- What the map holds when some truths are looked at. -/
def gOf (l : List Int) (pre : List (List Int)) : List Int → Option Int := pre.foldl (fun g t => fun x => if x = restr l t then some (kindL t) else g x) (fun _ => none)
theorem gOf_snoc (l : List Int) (pre : List (List Int)) (t : List Int) : gOf l (pre ++ [t]) = fun x => if x = restr l t then some (kindL t) else gOf l pre x := by unfold gOf; rw [List.foldl_append]; rfl
theorem gOf_some (l : List Int) (pre : List (List Int)) : ∀ k v, gOf l pre k = some v → ∃ t ∈ pre, restr l t = k ∧ kindL t = v := by
  refine rev_ind (p := fun pre => ∀ k v, gOf l pre k = some v → ∃ t ∈ pre, restr l t = k ∧ kindL t = v) (fun k v h => by cases h) (fun pre t ih k v h => ?_) pre
  rw [gOf_snoc] at h
  simp only at h
  split at h
  · rename_i hk
    injection h with h
    exact ⟨t, by simp, hk.symm, h⟩
  · obtain ⟨u, hu, h1⟩ := ih k v h
    exact ⟨u, List.mem_append_left _ hu, h1⟩
theorem gOf_none (l : List Int) (pre : List (List Int)) : ∀ k, gOf l pre k = none → ∀ t ∈ pre, restr l t ≠ k := by
  refine rev_ind (p := fun pre => ∀ k, gOf l pre k = none → ∀ t ∈ pre, restr l t ≠ k) (fun k _ t ht => by cases ht) (fun pre t ih k h => ?_) pre
  rw [gOf_snoc] at h
  simp only at h
  split at h
  · cases h
  · rename_i hk
    intro u hu
    rcases List.mem_append.1 hu with hu | hu
    · exact ih k h u hu
    · simp at hu; subst hu; exact fun e => hk e.symm
theorem cons_snoc {l : List Int} {pre : List (List Int)} {x : List Int} (h : consB l pre = true) (hg : ∀ v, gOf l pre (restr l x) = some v → v = kindL x) : consB l (pre ++ [x]) = true := by
  rw [consB_iff] at h ⊢
  have key : ∀ t ∈ pre, restr l t = restr l x → kindL t = kindL x := by
    intro t ht e
    cases hx : gOf l pre (restr l x) with
    | none => exact absurd e (gOf_none l pre _ hx t ht)
    | some v =>
      obtain ⟨u, hu, h1, h2⟩ := gOf_some l pre _ v hx
      rw [← hg v hx, ← h2]
      exact h t ht u hu (e.trans h1.symm)
  intro t ht u hu e
  rcases List.mem_append.1 ht with ht | ht <;> rcases List.mem_append.1 hu with hu | hu
  · exact h t ht u hu e
  · rw [List.mem_singleton] at hu; rw [hu] at e ⊢; exact key t ht e
  · rw [List.mem_singleton] at ht; rw [ht] at e ⊢; exact (key u hu e.symm).symm
  · simp at ht hu; rw [ht, hu]
theorem cons_fail {l : List Int} {pre : List (List Int)} {x : List Int} {v : Int} (hg : gOf l pre (restr l x) = some v) (hv : v ≠ kindL x) : consB l (pre ++ [x]) = false := by
  cases hc : consB l (pre ++ [x]) with
  | false => rfl
  | true =>
    rw [consB_iff] at hc
    obtain ⟨u, hu, h1, h2⟩ := gOf_some l pre _ v hg
    exact absurd (h2.symm.trans (hc u (List.mem_append_left _ hu) x (by simp) h1)) hv
theorem cons_pre {l : List Int} {pre T : List (List Int)} (h : pre <+: T) (hc : consB l pre = false) : consB l T = false := by
  cases hT : consB l T with
  | false => rfl
  | true =>
    rw [consB_iff] at hT
    obtain ⟨q, rfl⟩ := h
    have : consB l pre = true := (consB_iff l pre).2 fun t ht u hu e => hT t (List.mem_append_left _ ht) u (List.mem_append_left _ hu) e
    rw [this] at hc
    cases hc
theorem Keep.mapG {n₀ m n : Nat} {X : Nat → Prop} {A B : World} {g : List Int → Option Int} (hg : A.grownBy B (some m)) (hm : MapG A m n g) (hn : n₀ ≤ m) (hz : n₀ ≤ A.heap.size) : Keep n₀ X A B :=
  ⟨(Below.refl n₀ A).grown hg hz (fun k e => by injection e with e; omega), fun k hk _ hc => hg.block k hk (by intro e; injection e with e; subst e; exact hm.noCells hc)⟩
theorem restr_k5 {l x : List Int} (h : ∀ n ∈ x, 1 ≤ n ∧ n ≤ 9) : K5 (restr l x) := by
  refine ⟨restr_len l x, ?_⟩
  have key : ∀ (l s : List Int), (∀ n ∈ s, 0 ≤ n ∧ n ≤ 9) → ∀ n ∈ l.foldl (fun s i => s.set i.toNat (x[i.toNat]?.getD 0)) s, 0 ≤ n ∧ n ≤ 9 := by
    intro l
    induction l with
    | nil => intro s hs; exact hs
    | cons i l ih =>
      intro s hs
      rw [List.foldl_cons]
      refine ih _ fun n hn => ?_
      rcases List.mem_or_eq_of_mem_set hn with hn | rfl
      · exact hs n hn
      · cases e : x[i.toNat]? with
        | none => simp
        | some y => have := h y (List.mem_of_getElem? e); simp; omega
  exact key l _ (by simp)
theorem restr_snoc (l x : List Int) (i : Int) : restr (l ++ [i]) x = (restr l x).set i.toNat (x[i.toNat]?.getD 0) := by unfold restr; rw [List.foldl_append]; rfl
theorem truthsL_len {z : List (Span × Int)} (h : ∀ y ∈ z, 1 ≤ y.1.lo ∧ y.1.hi ≤ 9) : (truthsL z).length ≤ 9 ^ z.length := by
  induction z with
  | nil => simp [truthsL]
  | cons y z ih =>
    have hy := h y (List.mem_cons_self ..)
    have ih := ih fun y' hy' => h y' (List.mem_cons_of_mem _ hy')
    have hg : (gradesOf y.1 y.2).length ≤ 9 := by
      unfold gradesOf gTo
      refine Nat.le_trans (List.length_filter_le _ _) ?_
      rw [List.length_map, List.length_range]
      omega
    unfold truthsL
    rw [List.length_flatMap]
    have hm : ((gradesOf y.1 y.2).map fun n => ((truthsL z).map (n :: ·)).length).sum ≤ (gradesOf y.1 y.2).length * 9 ^ z.length := by
      generalize gradesOf y.1 y.2 = g
      clear hg
      induction g with
      | nil => simp
      | cons n g ih2 => simp only [List.map_cons, List.sum_cons, List.length_cons, List.length_map] at *; rw [Nat.add_mul]; omega
    refine Nat.le_trans hm ?_
    rw [List.length_cons, Nat.pow_succ, Nat.mul_comm]
    exact Nat.mul_le_mul_left _ hg

set_option maxHeartbeats 2000000 in
theorem decides_any (b : Bale) (dv wv lv : Value) (bb off cs : Nat) (sp : List Span) (l : List Int) (A : Option Addr) (n c : Nat) (w : World) (hsp : sp.length ≤ 5) (hsp0 : 0 < sp.length) (hbd : ∀ x ∈ sp, 1 ≤ x.lo ∧ x.lo ≤ 9 ∧ 1 ≤ x.hi ∧ x.hi ≤ 9)
    (hs : SlS w (.slice (some ⟨bb, off, none⟩) sp.length cs) sp) (hl : SlI w (.slice A n c) l) (hb : ∀ i ∈ l, 0 ≤ i ∧ i < (sp.length : Int)) :
    Calls Tryd.prog 101 #[valP b dv wv (.slice (some ⟨bb, off, none⟩) sp.length cs) lv, .slice A n c] w fun e w' => e = .returned (.bool (consB l (truthsL (sp.zip [0, 0, 0, 0, 0])))) ∧ Ext w w' := by
  obtain ⟨wA, hwA⟩ : ∃ wA : World, wA = ((w.alloc (.cells #[.int .i64 b.id, .int .i64 b.layers, .int .i64 b.dry.lo, .int .i64 b.dry.hi, dv, wv, .slice (some ⟨bb, off, none⟩) sp.length cs, lv] 106)).alloc (.cells #[.slice A n c] 56)).alloc (.cells #[.bool false] 4) := ⟨_, rfl⟩
  have hzA : wA.heap.size = w.heap.size + 3 := by rw [hwA]; simp
  have EA : Ext w wA := by rw [hwA]; exact ((Ext.al _ _).alloc _).alloc _
  have HBP := Lib.hid (show Blk wA w.heap.size 106 #[.int .i64 b.id, .int .i64 b.layers, .int .i64 b.dry.lo, .int .i64 b.dry.hi, dv, wv, .slice (some ⟨bb, off, none⟩) sp.length cs, lv] by rw [hwA]; exact ((Blk.new _ _ _).alloc _).alloc _)
  have HBL := Lib.hid (show Blk wA (w.heap.size + 1) 56 #[.slice A n c] by rw [hwA]; exact (Blk.at_ (by simp)).alloc _)
  have HBR := Lib.hid (show Blk wA (w.heap.size + 1 + 1) 4 #[.bool false] by rw [hwA]; exact Blk.at_ (by simp))
  obtain ⟨WM, hWM⟩ : ∃ WM : World, WM = wA.alloc (.map #[] 0) := ⟨_, rfl⟩
  have r0 : Sem.run Tryd.prog (Instr.makeMap 161 .none) wA = .ok (.map (some (w.heap.size + 3))) WM := by rw [run_makeMap, hzA, hWM]
  have EM : Ext wA WM := by rw [hWM]; exact Ext.al _ _
  have HM := Lib.hid (show MapG WM (w.heap.size + 3) 0 (fun _ => none) by have := MapG.made wA; rw [hWM, ← hzA]; exact this)
  have hzM : WM.heap.size = w.heap.size + 4 := by rw [hWM]; simp [hzA]
  rw [hwA] at r0
  have HEA := Lib.hid (EA.trans EM)
  have hBP := Lib.hid (HBP.out.ext EM)
  have hBL := Lib.hid (HBL.out.ext EM)
  have hBR := Lib.hid (HBR.out.ext EM)
  have p0 := hBP.out.cell 0
  have p1 := hBP.out.cell 1
  have p2 := hBP.out.cell 2
  have p3 := hBP.out.cell 3
  have p4 := hBP.out.cell 4
  have p5 := hBP.out.cell 5
  have p6 := hBP.out.cell 6
  have p7 := hBP.out.cell 7
  have pl := hBP.out.lt
  simp at p0 p1 p2 p3 p4 p5 p6 p7
  have HS := Lib.hid hs; have HL := Lib.hid hl; have HBD := Lib.hid hbd; have HB := Lib.hid hb; have HZM := Lib.hid hzM
  have HS5 := Lib.hid hsp; have HS0 := Lib.hid hsp0
  clear hs hl hbd hb EA EM HBP HBL HBR hwA hWM hzA hzM hsp hsp0
  refine calls_of_wp_marks Tryd.func101 rfl ?_
  simp only [Tryd.ntmps101, List.size_toArray, List.length_cons, List.length_nil, Nat.reduceAdd, Nat.reduceSub, Array.replicate_succ, Array.replicate_zero, List.push_toArray, List.append_toArray, List.nil_append, List.cons_append]
  dsimp only [valP]
  go_wp2_with fail
  refine (truths_any b _ _ _ _ _ _ _ _ _ _).mono ?_
  rintro e w6 ⟨rfl, hw6⟩
  have HW6 := Lib.hid hw6; clear hw6
  go_wp2_with fail
  have hw6 := HW6.out
  have hE6 : Ext (WM.alloc (.cells #[.map (some (w.heap.size + 3))] 161)) w6 := by rw [hw6]; exact (Ext.al _ _).alloc _
  have E16 : Ext WM w6 := (Ext.al _ _).trans hE6
  have hz6 : w6.heap.size = WM.heap.size + 3 := by rw [hw6]; simp
  have hzM := HZM.out
  have HBM := Lib.hid (show Blk w6 WM.heap.size 161 #[.map (some (w.heap.size + 3))] from (Blk.new _ _ _).ext hE6)
  have hPM : PM (WM.heap.size + 1) bb off (WM.heap.size + 1 + 1) cs sp [0, 0, 0, 0, 0] w6 := by
    have hb6 : Blk w6 (WM.heap.size + 1) 106 #[.int .i64 b.id, .int .i64 b.layers, .int .i64 b.dry.lo, .int .i64 b.dry.hi, dv, wv, .slice (some ⟨bb, off, none⟩) sp.length cs, lv] := by rw [hw6]; exact (Blk.at_ (by simp)).alloc _
    have hs6 : Blk w6 (WM.heap.size + 1 + 1) 127 #[.int .i64 0, .int .i64 0, .int .i64 0, .int .i64 0, .int .i64 0] := by rw [hw6]; exact Blk.at_ (by simp)
    refine ⟨hb6.cell 6, fun i x hx => ?_, fun i n hn => ?_⟩
    · obtain ⟨b', off', x', e1, hx', _, hc⟩ := HS.out.at_ (show i < sp.length from (List.getElem?_eq_some_iff.1 hx).1)
      injection e1 with e1
      injection e1 with e1 e2
      subst e1 e2
      rw [hx] at hx'
      injection hx' with hx'
      subst hx'
      exact SlS.cells hc (HEA.out.trans E16)
    · have := hs6.cell i
      match i, hn with
      | 0, hn => simp at hn; subst hn; exact this
      | 1, hn => simp at hn; subst hn; exact this
      | 2, hn => simp at hn; subst hn; exact this
      | 3, hn => simp at hn; subst hn; exact this
      | 4, hn => simp at hn; subst hn; exact this
  have HE6 := Lib.hid (HEA.out.trans E16)
  have HM6 := Lib.hid (HM.out.ext E16)
  have HBL6 := Lib.hid (hBL.out.ext E16)
  have HBR6 := Lib.hid (hBR.out.ext E16)
  have HZ6 := Lib.hid hz6
  have HTL := Lib.hid (show (truthsL (sp.zip [0, 0, 0, 0, 0])).length ≤ 59049 by
    have h1 := truthsL_len (z := sp.zip [0, 0, 0, 0, 0]) (fun y hy => by have := HBD.out y.1 (List.of_mem_zip hy).1; omega)
    have h2 : (sp.zip ([0, 0, 0, 0, 0] : List Int)).length ≤ 5 := by rw [List.length_zip]; have := HS5.out; simp; omega
    exact Nat.le_trans h1 (Nat.le_trans (Nat.pow_le_pow_right (by decide) h2) (by decide)))
  clear hw6 HW6 hE6 E16 p0 p1 p2 p3 p4 p5 p6 p7 pl r0 hBP hBL hBR HM
  refine wp_rangeFunc (by rfl) (enters_of Tryd.func130 (by kernel_rfl) rfl) (truths_seqs (w := w6) (X := fun _ => False) (n₀ := w.heap.size) HS5.out rfl (fun x hx => by have := HBD.out x hx; omega) (fun _ h => h.elim) id id id (by omega) hPM) (Ext.refl _) (by omega)
    (fun x v W r o h hr => sl_put h hr)
    (fun pre W => consB l pre = true ∧ MapG W (w.heap.size + 3) pre.length (gOf l pre) ∧ Blk W WM.heap.size 161 #[.map (some (w.heap.size + 3))] ∧ Blk W (w.heap.size + 1) 56 #[.slice A n c] ∧ Blk W (w.heap.size + 1 + 1) 4 #[.bool false] ∧ Below w.heap.size w W)
    (fun c pre W => c = .ret ∧ consB l pre = false ∧ Blk W (w.heap.size + 1 + 1) 4 #[.bool false] ∧ Below w.heap.size w W)
    ?_ ?_ ?_ (fun v => { tmps := #[valP b dv wv (.slice (some ⟨bb, off, none⟩) sp.length cs) lv, .slice A n c, .pointer (some ⟨w.heap.size, 0, none⟩), .pointer (some ⟨w.heap.size + 1, 0, none⟩), .pointer (some ⟨w.heap.size + 1 + 1, 0, none⟩), .pointer (some ⟨WM.heap.size, 0, none⟩), v, undef, undef, undef, undef, undef, undef,
      .map (some (w.heap.size + 3)), valP b dv wv (.slice (some ⟨bb, off, none⟩) sp.length cs) lv, .agg #[.int .i64 0, .int .i64 0, .int .i64 0, .int .i64 0, .int .i64 0], .func (.func 130) #[] #[.pointer (some ⟨WM.heap.size + 1, 0, none⟩), .pointer (some ⟨WM.heap.size + 1 + 1, 0, none⟩)], v,
      undef, undef, undef, undef, undef, undef, undef, undef, undef, undef, undef, undef, undef, undef, undef, undef, undef, undef, undef, undef, undef, undef, undef, undef, undef, undef, undef, undef, undef, undef], defers := [] }) ?_ ?_ ?_ ?_
  · rintro pre A B ⟨h1, h2, h3, h4, h5, h6⟩ hA hT
    exact ⟨h1, h2.at_ (hT.block _ (by omega) (by omega) (by omega)), h3.turn hT (by omega) (by omega), h4.turn hT (by omega) (by omega), h5.turn hT (by omega) (by omega), hT.below h6 (by omega) (by omega)⟩
  · rintro c pre A B ⟨rfl, h1, h5, h6⟩ hA hT
    exact ⟨rfl, h1, h5.turn hT (by omega) (by omega), hT.below h6 (by omega) (by omega)⟩
  · intro W hW
    exact ⟨by unfold consB; simp, HM6.out.ext hW, HBM.out.ext hW, HBL6.out.ext hW, HBR6.out.ext hW, HE6.out.trans hW⟩
  · intro m l v W K hK
    clear hz6 hzM
    gi_wp2
    exact hK
  · rintro m ll pre x v W ⟨h1, h2, h3, h4, h5, h6⟩ hv hpre hlt
    have hx : x ∈ truthsL (sp.zip [0, 0, 0, 0, 0]) := by
      obtain ⟨q, hq⟩ := hpre
      rw [← hq]; simp
    obtain ⟨hxl, hxb⟩ := truthsL_mem hx
    have hxl' : x.length = sp.length := by rw [hxl, List.length_zip]; have := HS5.out; simp; omega
    have hx9 : ∀ n ∈ x, 1 ≤ n ∧ n ≤ 9 := fun n hn => by
      obtain ⟨y, hy, h6, h7⟩ := hxb n hn
      have := HBD.out y.1 (List.of_mem_zip hy).1
      omega
    have HSM := Lib.hid (show Small x from fun n hn => by have := hx9 n hn; omega)
    have HXL := Lib.hid hxl'
    have HXB := Lib.hid hx9
    have HPL := Lib.hid (show pre.length < 100000000 by
      have h1 := hpre.length_le
      have h2 := HTL.out
      simp at h1
      omega)
    have HV := Lib.hid hv; have H1 := Lib.hid h1; have H2 := Lib.hid h2; have H3 := Lib.hid h3; have H4 := Lib.hid h4; have H5 := Lib.hid h5; have H6 := Lib.hid h6; have HLT := Lib.hid hlt; have HPR := Lib.hid hpre
    have q0 := h4.cell 0
    have ql := h4.lt
    simp at q0
    obtain ⟨Av, nv, cv, rfl, hnv, -, -⟩ := hv.form
    have hnl : n = l.length := by obtain ⟨_, _, h, _⟩ := HL.out; injection h
    have HNL := Lib.hid hnl
    clear hz6 hzM hx hxl hxb hxl' hv h1 h2 h3 h4 h5 h6 hlt hpre hx9 hPM hnl
    gi_wp2_with fail
    gi_loopw [9, 20] (fun _ s20 wr => ∃ kk : Nat, kk ≤ n ∧ s20 = .int .i64 kk ∧ Aside (Ext W wr) ∧ Aside (Blk wr W.heap.size 127 ((restr (l.take kk) x).map (Value.int .i64)).toArray)) (fun _ i _ => n - (RowKit.intOf i).toNat)
    case atStart => exact ⟨0, by omega, rfl, Ext.al _ _, Blk.new _ _ _⟩
    case round =>
      obtain ⟨kk, hkk, rfl, EX, BX⟩ := hrel
      by_cases hlt3 : kk < n
      · have hltz : (kk : Int) < (n : Int) := by omega
        obtain ⟨bl, ol, i, rfl, hi, hbl, hic⟩ := HL.out.at_ hlt3
        have c0 := SlI.cell hic (Ext.trans H6.out EX.out)
        obtain ⟨hi0, hi1⟩ := HB.out i (List.mem_of_getElem? hi)
        obtain ⟨i', rfl⟩ : ∃ i' : Nat, i = (i' : Int) := ⟨i.toNat, by omega⟩
        have hnb : (n : Int) ≤ 9223372036854775807 := by obtain ⟨_, _, h1, h2, h3, _⟩ := HL.out; injection h1 with _ h1 _; unfold maxLen at h3; omega
        have hi5 : (i' : Int) < 5 := by have := HS5.out; omega
        have hin : (i' : Int) < (nv : Int) := by have := hnv.out; have := HXL.out; omega
        obtain ⟨bx, ox, y, rfl, hy, hbx, hyc⟩ := HV.out.at_ (show i' < nv by omega)
        have c1 := SlI.cell hyc EX.out
        obtain ⟨u0, hu0⟩ : ∃ u0, (restr (l.take kk) x)[i']? = some u0 := ⟨_, List.getElem?_eq_getElem (by rw [restr_len]; omega)⟩
        have t0 : wr.cell? ⟨W.heap.size, i', none⟩ = some (.int .i64 u0) := by rw [BX.out.cell]; simp [hu0]
        have tf := BX.out.frozen
        have tl := BX.out.lt
        have HY := Lib.hid (show restr (l.take (kk + 1)) x = (restr (l.take kk) x).set i' y by
          rw [List.take_add_one, hi]
          show restr (l.take kk ++ [(i' : Int)]) x = _
          rw [restr_snoc]
          simp [hy])
        clear hi hic hy hyc hu0
        gi_wp2
        go_roundw
        case rel => exact ⟨kk + 1, by omega, by simp, EX.out.setCell (by dsimp only; omega) _, by rw [HY.out]; show Blk _ _ _ _; have := BX.out.set_ i' (.int .i64 y); simpa using this⟩
        case measure => simp [RowKit.intOf]; omega
      · have HTK := Lib.hid (show l.take kk = l from List.take_of_length_le (by have := HNL.out; omega))
        rw [HTK.out] at BX
        gi_wp2_with fail
        refine ⟨trivial, wide_depth _, ?_⟩
        refine (CallsIn.inRound ll (callsIn_wide.2 (kind_any x _ _ (HV.out.ext EX.out) (by have := HXL.out; have := HS0.out; omega) (by have := HXL.out; have := HS5.out; omega) HSM.out))).mono ?_
        rintro e W1 ⟨rfl, hE⟩
        have EW := Ext.trans EX.out hE
        have hK5 := restr_k5 (l := l) HXB.out
        have hkb := kindL_bd x
        obtain ⟨vv, rr1, hvv⟩ := (H2.out.ext EW).look hK5
        obtain ⟨W2, rr2, hm2, hg2⟩ := (H2.out.ext EW).store hK5 HPL.out (v := kindL x) (by omega)
        have BX1 := BX.out.ext hE
        have HGS := Lib.hid (gOf_snoc l pre x)
        have HCS := Lib.hid (cons_snoc (l := l) (pre := pre) (x := x) H1.out)
        have HCF := Lib.hid (fun v => cons_fail (l := l) (pre := pre) (x := x) (v := v))
        rw [← gOf_snoc] at hm2
        have h5 := hK5.1
        generalize hrs : restr l x = rs at *
        match rs, h5 with
        | [a0, a1, a2, a3, a4], _ =>
        have b0 := BX1.cell 0
        have b1 := BX1.cell 1
        have b2 := BX1.cell 2
        have b3 := BX1.cell 3
        have b4 := BX1.cell 4
        have blt := BX1.lt
        simp at b0 b1 b2 b3 b4
        have z3 : W1.cell? ⟨WM.heap.size, 0, none⟩ = some (.map (some (w.heap.size + 3))) := (H3.out.ext EW).cell 0
        have z5 := (H5.out.ext EW).cell 0
        have z5f := (H5.out.ext EW).frozen
        have z5l := (H5.out.ext EW).lt
        simp at z5
        have HEW := Lib.hid EW; have HM2 := Lib.hid hm2; have HG2 := Lib.hid hg2; have HVV := Lib.hid hvv
        have HB5 := Lib.hid (H5.out.ext EW)
        unfold agg5 at rr1 rr2
        simp only [List.map_cons, List.map_nil] at rr1 rr2
        clear EW hm2 hg2 hvv hE hK5 BX1 BX
        cases hgx : gOf l pre [a0, a1, a2, a3, a4] with
        | none =>
          rw [hgx] at rr1
          simp only [Option.isSome_none] at rr1
          gi_wp2
          have hm := (H2.out.ext HEW.out)
          have hws := H6.out.size
          have hl := HLT.out
          have hz6 := HZ6.out
          have hzM := HZM.out
          have hs1 := HEW.out.size
          have hK : Keep w.heap.size (fun _ => False) W W2 := (Keep.ext HEW.out hws).trans (Keep.mapG HG2.out hm (by omega) (by omega))
          exact ⟨hK, (HG2.out.block _ (by omega) (by intro e; injection e with e; omega)).trans (HEW.out.block _ (by omega)), (HG2.out.block _ (by omega) (by intro e; injection e with e; omega)).trans (HEW.out.block _ (by omega)),
            HCS.out (fun v hv => by rw [hgx] at hv; cases hv), by rw [List.length_append]; exact HM2.out, (H3.out.ext HEW.out).grown HG2.out (by intro e; injection e with e; omega), (H4.out.ext HEW.out).grown HG2.out (by intro e; injection e with e; omega), HB5.out.grown HG2.out (by intro e; injection e with e; omega), H6.out.trans hK.b⟩
        | some v =>
          obtain rfl := HVV.out v hgx
          rw [hgx] at rr1
          simp only [Option.isSome_some] at rr1
          by_cases hvk : vv = kindL x
          · subst hvk
            gi_wp2
            have hm := (H2.out.ext HEW.out)
            have hws := H6.out.size
            have hl := HLT.out
            have hz6 := HZ6.out
            have hzM := HZM.out
            have hs1 := HEW.out.size
            have hK : Keep w.heap.size (fun _ => False) W W2 := (Keep.ext HEW.out hws).trans (Keep.mapG HG2.out hm (by omega) (by omega))
            exact ⟨hK, (HG2.out.block _ (by omega) (by intro e; injection e with e; omega)).trans (HEW.out.block _ (by omega)), (HG2.out.block _ (by omega) (by intro e; injection e with e; omega)).trans (HEW.out.block _ (by omega)),
              HCS.out (fun v hv => by rw [hgx] at hv; injection hv with hv; exact hv.symm), by rw [List.length_append]; exact HM2.out, (H3.out.ext HEW.out).grown HG2.out (by intro e; injection e with e; omega), (H4.out.ext HEW.out).grown HG2.out (by intro e; injection e with e; omega), HB5.out.grown HG2.out (by intro e; injection e with e; omega), H6.out.trans hK.b⟩
          · have hvb : (vv != kindL x) = true := by simpa using hvk
            have HF := Lib.hid (HCF.out vv hgx hvk)
            gi_wp2
            have hws := H6.out.size
            have hl := HLT.out
            have hz6 := HZ6.out
            have hzM := HZM.out
            have hs1 := HEW.out.size
            exact ⟨(Below.heap_setCell _ _ _ _ (by dsimp only; omega)).trans (HEW.out.block _ (by omega)), (Below.heap_setCell _ _ _ _ (by dsimp only; omega)).trans (HEW.out.block _ (by omega)), rfl, HF.out, HB5.out.set_ 0 _, Below.setCell (H6.out.trans (HEW.out.mono hws)) (by dsimp only; omega) _⟩
  · rintro W ⟨h1, h2, h3, h4, h5, h6⟩ hlt hK
    have HC := Lib.hid h1
    have H5 := Lib.hid h5; have H6 := Lib.hid h6; have HKK := Lib.hid hK
    have z5 := h5.cell 0
    have z5f := h5.frozen
    have z5l := h5.lt
    simp at z5
    clear h1 h2 h3 h4 h5 h6 hK hPM
    go_wp2
    have hw := H6.out.size
    have hK' : (W.setCell ⟨w.heap.size + 1 + 1, 0, none⟩ (.bool true)).heap[w6.heap.size]? = some (.deferred (some [])) := (Below.heap_setCell _ _ _ _ (by dsimp only; omega)).trans HKK.out
    refine ⟨by simp, .inl ⟨_, _, rfl, run_takeDeferred hK', ?_⟩⟩
    have HBB := Lib.hid (show Blk ((W.setCell ⟨w.heap.size + 1 + 1, 0, none⟩ (.bool true)).putObj w6.heap.size (.deferred none)) (w.heap.size + 1 + 1) 4 #[.bool true] from (World.putObj_heap_other (by omega)).trans (H5.out.set_ 0 _))
    have u1 := HBB.out.cell 0
    simp at u1
    have hbel : Below w.heap.size w (W.setCell ⟨w.heap.size + 1 + 1, 0, none⟩ (.bool true)) := H6.out.setCell (by dsimp only; omega) _
    refine ⟨.bool true, by simp [results, Tryd.results101, go_sem, u1], ?_, ?_⟩
    · rw [HC.out]
    · exact Turn.below hbel (Turn.put0 (s := w6.heap.size) _ _) (by omega) hbel.size
  · rintro cc pre W hpre ⟨rfl, h1, h5, h6⟩ hlt hK
    have HC := Lib.hid (cons_pre hpre h1)
    have H5 := Lib.hid h5; have H6 := Lib.hid h6; have HKK := Lib.hid hK
    clear h1 h5 h6 hK hPM hpre
    go_wp2
    have hw := H6.out.size
    refine ⟨by simp, .inl ⟨_, _, rfl, run_takeDeferred HKK.out, ?_⟩⟩
    have HBB := Lib.hid (show Blk (W.putObj w6.heap.size (.deferred none)) (w.heap.size + 1 + 1) 4 #[.bool false] from (World.putObj_heap_other (by omega)).trans H5.out)
    have u1 := HBB.out.cell 0
    simp at u1
    refine ⟨.bool false, by simp [results, Tryd.results101, go_sem, u1], ?_, ?_⟩
    · rw [HC.out]
    · exact Turn.below H6.out (Turn.put0 (s := w6.heap.size) _ _) (by omega) H6.out.size
end Go.Proofs.YtdlipbobfgdleaaDoor
/- core.Decide. -/
namespace Go.Proofs.YtdlipbobfgdleaaDoor
open Go.RowKit Go.Shelf Go.Lib
set_option maxRecDepth 100000
set_option linter.unusedSimpArgs false

/-- The fewest layers whose draws decide. -/
def decS (sp : List Span) : List Int := ((listsL (ints sp.length) sp.length).find? fun l => consB l (truthsL (sp.zip [0, 0, 0, 0, 0]))).getD []
def decB (b : Bale) : List Int := if askE b true 0 = 0 then decS (spans b) else []
theorem ints_succ (j : Nat) : ints (j + 1) = ints j ++ [(j : Int)] := by unfold ints; rw [List.range_succ, List.map_append]; rfl
theorem ints_len (j : Nat) : (ints j).length = j := by simp [ints]

set_option maxHeartbeats 2000000 in
theorem decide_any (b : Bale) (dv wv : Value) (w : World) (hT : Tab w) (hd : SlD w dv b.draws) (hw : SlW w wv b.weighs) :
    Calls Tryd.prog 43 #[valB b dv wv] w fun e w' => ∃ v, e = .returned (.tuple #[v, .int .i64 (askE b true 0)]) ∧ SlI w' v (decB b) ∧ Ext w w' := by
  have HT := Lib.hid hT
  have HD := Lib.hid hd
  have HW := Lib.hid hw
  obtain ⟨A, n, cp, rfl, hn, hlc, hcm⟩ := hd.form
  obtain ⟨A2, n2, cp2, rfl, hn2, hlc2, hcm2⟩ := hw.form
  clear hd hw hT
  go_enter Tryd.func43, Tryd.ntmps43
  go_wp2_with fail
  refine (asked_nil b _ _ _ (HT.out.ext (Ext.al _ _)) (HD.out.ext (Ext.al _ _)) (HW.out.ext (Ext.al _ _))).mono ?_
  rintro e w1 ⟨pv, rfl, hpv, hpz, hE⟩
  have HEW := Lib.hid ((Ext.al w _).trans hE)
  clear hE
  by_cases hz9 : askE b true 0 = 0
  · obtain ⟨sv, lv, rfl, hs, hl⟩ := hpv hz9
    obtain ⟨h1, h3⟩ : valid b = true ∧ okB b = true := by
      unfold askE at hz9
      split at hz9
      · simp at hz9; exact ⟨by assumption, hz9⟩
      · cases hz9
    have hb5 := valid_bds h1
    obtain ⟨Al, nl, cl, rfl, hnl, hlc', hlm⟩ := hl.form
    have hln := spans_len b
    have hl0 : 0 < (spans b).length := by have := hb5.l1; omega
    have hl5 : (spans b).length ≤ 5 := by have := hb5.l5; omega
    obtain ⟨As, cs, rfl, hsc, hsm, hcx⟩ := id hs
    obtain ⟨bs, os, rfl, hbs, -⟩ := hcx hl0
    have HBD := Lib.hid (show ∀ x ∈ spans b, 1 ≤ x.lo ∧ x.lo ≤ 9 ∧ x.hi ≤ 9 ∧ 1 ≤ x.hi from fun x hx => spans_bd h1 x hx)
    have HK := Lib.hid (show decB b = decS (spans b) by unfold decB; rw [if_pos hz9])
    have HZ := Lib.hid hz9
    have HS := Lib.hid hs
    have HL5 := Lib.hid hl5; have HL0 := Lib.hid hl0
    generalize hsp : spans b = sp at *
    rw [hz9]
    dsimp only [valP]
    have HBP := Lib.hid (Blk.new w1 106 #[.int .i64 b.id, .int .i64 b.layers, .int .i64 b.dry.lo, .int .i64 b.dry.hi, .slice A n cp, .slice A2 n2 cp2, .slice (some ⟨bs, os, none⟩) sp.length cs, .slice Al nl cl])
    clear hz9 hs hl hsc hsm hcx hb5 h1 h3 hpv hpz hsp hln hl0 hl5 hbs
    go_wp2
    go_loopg [6, 7, 22] sp.length (fun gg s6 _ s22 wr => ∃ (j : Nat), j ≤ sp.length ∧ sp.length - j ≤ gg ∧ s22 = .int .i64 j ∧ Aside (Own encI 3 1 wr (w1.heap.size + 1) s6 (ints j)) ∧ Aside (Ext (w1.alloc (.cells #[.int .i64 b.id, .int .i64 b.layers, .int .i64 b.dry.lo, .int .i64 b.dry.hi, .slice A n cp, .slice A2 n2 cp2, .slice (some ⟨bs, os, none⟩) sp.length cs, .slice Al nl cl] 106)) wr))
    case atStart => exact ⟨0, by omega, by omega, rfl, Own.nil _ _, Ext.refl _⟩
    case round =>
      obtain ⟨j, hj, hgg, rfl, OV, EX⟩ := hrel
      have hl5' := HL5.out
      by_cases hjn : j < sp.length
      · have hjz : (j : Int) < (sp.length : Int) := by omega
        have HJ5 := Lib.hid (show (ints j).length < 100000000000 by rw [ints_len]; have := HL5.out; omega)
        go_wp2_with (at_builtin; refine wpList_app encI 56 3 1 _ 8 Tryd.underlying56 info3x rfl (by decide) (by decide) (fun _ => rfl) encI_one rfl (.tmp 25) (.tmp 27) rfl (w1.heap.size + 1) _ (ints j) rfl (OV.out.alloc _) wr.heap.size 1 (j : Int) rfl (cells1 (by simp [go_sem])) HJ5.out (by have := EX.out.size; simp at this ⊢; omega) ?_)
        intro g cap w' hown hg2 hbel _
        have HO := Lib.hid (show Own encI 3 1 w' (w1.heap.size + 1) (.slice (some ⟨g, 0, none⟩) ((ints j).length + 1) cap) (ints (j + 1)) by rw [ints_succ]; exact hown)
        have HE := Lib.hid (show Ext (w1.alloc (.cells #[.int .i64 b.id, .int .i64 b.layers, .int .i64 b.dry.lo, .int .i64 b.dry.hi, .slice A n cp, .slice A2 n2 cp2, .slice (some ⟨bs, os, none⟩) sp.length cs, .slice Al nl cl] 106)) w' from Below.trans (EX.out.alloc _) (by simpa using hbel))
        clear hown hg2 hbel
        go_wp2
        go_roundg (sp.length - (j + 1))
        case measure => omega
        case rel => exact ⟨j + 1, by omega, by omega, by simp, HO.out, HE.out⟩
      · have hje : j = sp.length := by omega
        subst hje
        have hsl : SlI wr u6 (ints sp.length) := Own.sl (enc := encI) (fun _ => rfl) OV.out
        obtain ⟨Av, nv, cv, rfl, hnv, -, -⟩ := hsl.form
        have hnv' : nv = sp.length := by rw [hnv.out, ints_len]
        subst hnv'
        have HBPW := Lib.hid (HBP.out.ext EX.out)
        have y0 := HBPW.out.cell 0
        have y1 := HBPW.out.cell 1
        have y2 := HBPW.out.cell 2
        have y3 := HBPW.out.cell 3
        have y4 := HBPW.out.cell 4
        have y5 := HBPW.out.cell 5
        have y6 := HBPW.out.cell 6
        have y7 := HBPW.out.cell 7
        have yl := HBPW.out.lt
        simp at y0 y1 y2 y3 y4 y5 y6 y7
        have HSL := Lib.hid hsl
        clear hsl OV hnv
        go_wp2_with fail
        refine (lists_any Av sp.length cv sp.length wr).mono ?_
        rintro e w3 ⟨rfl, hw3⟩
        have E3 : Ext wr w3 := by rw [hw3]; exact (Ext.al _ _).alloc _
        have hb0 : Blk w3 wr.heap.size 56 #[.slice Av sp.length cv] := by rw [hw3]; exact (Blk.new _ _ _).alloc _
        have hb1 : Blk w3 (wr.heap.size + 1) 3 #[.int .i64 (sp.length : Int)] := by rw [hw3]; exact Blk.at_ (by simp)
        have hsl3 := HSL.out.ext E3
        have E13 : Ext w1 w3 := ((Ext.al _ _).trans EX.out).trans E3
        have hz3 := E3.size
        have HFI := Lib.hid (first_any (gf := 133) (tf := 101) (lb := #[.pointer (some ⟨wr.heap.size, 0, none⟩), .pointer (some ⟨wr.heap.size + 1, 0, none⟩)]) (fi := #[valP b (.slice A n cp) (.slice A2 n2 cp2) (.slice (some ⟨bs, os, none⟩) sp.length cs) (.slice Al nl cl)]) (tlb := #[]) (w := w3)
          (p := fun l => consB l (truthsL (sp.zip [0, 0, 0, 0, 0]))) (enters_of Tryd.func133 (by kernel_rfl) rfl) (enters_of Tryd.func101 (by kernel_rfl) rfl)
          (lists_seqs (ba := wr.heap.size) (bm := wr.heap.size + 1) (ca := cv) (n₀ := w3.heap.size) (X := fun _ => False) (A := Av) (all := ints sp.length) (most := sp.length) (w := w3) (by rw [ints_len]; have := HL5.out; omega) (fun _ h => h.elim) id (fun _ _ _ => id) (Nat.le_refl _)
            (by rw [ints_len]; exact hb0.cell 0) (fun i x hx => by
              have hi : i < sp.length := by have := (List.getElem?_eq_some_iff.1 hx).1; rw [ints_len] at this; exact this
              obtain ⟨bb, off, y, e1, hy, hbb, hc⟩ := hsl3.at_ hi
              rw [hx] at hy
              injection hy with hy
              subst hy
              exact ⟨bb, off, e1, SlI.cell hc (Ext.refl _)⟩) (hb1.cell 0))
          (fun x hx v W hB hv => by
            obtain ⟨Ax, nx, cx, rfl, -, -, -⟩ := hv.form
            exact decides_any b (.slice A n cp) (.slice A2 n2 cp2) (.slice Al nl cl) bs os cs sp x Ax nx cx W HL5.out HL0.out (fun y hy => by have := HBD.out y hy; omega) (HS.out.ext (E13.trans hB)) hv (fun i hi => ints_mem ((lists_mem hx).1 i hi))))
        have HE3 := Lib.hid (HEW.out.trans E13)
        clear hw3 E3 hb0 hb1 hsl3 E13 hz3
        go_wp2_with fail
        refine HFI.out.mono ?_
        rintro e w4 ⟨v, rfl, hv, hE4⟩
        have HV := Lib.hid hv; have HE4 := Lib.hid (HE3.out.trans hE4)
        clear hv hE4
        go_wp2
        refine bodyPost_ret (v := .tuple #[v, .int .i64 0]) (by simp [results, Tryd.results43, go_sem]) rfl ?_
        exact ⟨v, by rw [HZ.out], by rw [HK.out]; exact HV.out, HE4.out⟩
  · have HK := Lib.hid (show decB b = [] by unfold decB; rw [if_neg hz9])
    obtain rfl := hpz hz9
    generalize hE9 : askE b true 0 = E at hz9
    have HE9 := Lib.hid hE9; clear hE9 hpv hpz
    have HE1 := Lib.hid (HEW.out.alloc (.cells #[.int .i64 0, .int .i64 0, .int .i64 0, .int .i64 0, .slice none 0 0, .slice none 0 0, .slice none 0 0, .slice none 0 0] 106))
    go_wp2
    refine bodyPost_ret (v := .tuple #[.slice none 0 0, .int .i64 E]) (by simp [results, Tryd.results43, go_sem]) rfl ?_
    exact ⟨_, by rw [HE9.out], by rw [HK.out]; exact Sl.nil _, HE1.out⟩
end Go.Proofs.YtdlipbobfgdleaaDoor
/- The values of the chapter's examples. -/
namespace Go.Proofs.YtdlipbobfgdleaaDoor
open Go.RowKit Go.Shelf Go.Lib
set_option maxRecDepth 100000
set_option linter.unusedSimpArgs false

/-- The bale of the examples, with draws more. -/
def exB (m : List Draw) : Bale := ⟨1, 4, ⟨400, 500⟩, [⟨1, 0, ⟨3, 3⟩⟩, ⟨2, 3, ⟨3, 4⟩⟩, ⟨3, 1, ⟨3, 6⟩⟩] ++ m, [⟨1, 480, ⟨60, 90⟩⟩, ⟨2, 470, ⟨40, 70⟩⟩]⟩
/-- A draw of it that cannot be true. -/
def odD : Draw := ⟨4, 0, ⟨5, 6⟩⟩

theorem ex_valid : valid (exB []) = true := by kernel_rfl
theorem ex_ok : okB (exB []) = true := by kernel_rfl
theorem ex_spans : spans (exB []) = [⟨3, 3⟩, ⟨3, 6⟩, ⟨1, 9⟩, ⟨3, 4⟩] := by kernel_rfl
theorem ex_ask (r : Bool) (e : Int) : askE (exB []) r e = if r then 0 else e := by
  unfold askE; rw [ex_valid, ex_ok]; simp
theorem ex_layer1 : layerB (exB []) (inB 0 ((exB []).layers - 1) 1) 1 = ⟨3, 6⟩ := by kernel_rfl
theorem ex_best : endsB min (exB []) = ⟨1, 3⟩ := by kernel_rfl
theorem ex_worst : endsB max (exB []) = ⟨3, 9⟩ := by kernel_rfl
theorem ex_kinds : kindS (exB []) = S4.all := by kernel_rfl
theorem ex_cutS : cutS (exB []) = ⟨1, 3⟩ := by kernel_rfl
theorem ex_askS : askS (exB []) = (2, 3) := by kernel_rfl
theorem ex_dec : decS (spans (exB [])) = [1, 2, 3] := by
  rw [ex_spans]
  exact (decide_eq (sp := [⟨3, 3⟩, ⟨3, 6⟩, ⟨1, 9⟩, ⟨3, 4⟩]) (by decide) (by decide) (by decide)).symm.trans (by kernel_rfl)
theorem ex_dryB : dryB (exB []) = ⟨441, 452⟩ := by kernel_rfl
theorem ex_wet1 : wetB (exB []) 1 = ⟨62, 90⟩ := by kernel_rfl
theorem ex_pay85 : payB (exB []) 85 = ⟨478, 490⟩ := by kernel_rfl
theorem ex_aside90 : asideB (exB []) 90 = 1 := by kernel_rfl
theorem od_valid : valid (exB [odD]) = true := by kernel_rfl
theorem od_ok : okB (exB [odD]) = false := by kernel_rfl
theorem od_wrongE : wrongE (exB [odD]) = 0 := by kernel_rfl
theorem od_wrongL : wrongL (exB [odD]) = [1] := by kernel_rfl
theorem od_wrongK : wrongK (exB [odD]) = [] := by kernel_rfl
end Go.Proofs.YtdlipbobfgdleaaDoor
