/- slices.Clone at draws and weighings; core.copied. -/
import Derived.Test.YtcoiahjehlplfaaDoorPkChangesCardO
import Derived.Test.YtcoiahjehlplfaaDoorPkChangesCardF
import Derived.Test.YtcoiahjehlplfaaDoorPkChangesCardC
import Derived.Test.YtcoiahjehlplfaaDoorPkChangesCardD
namespace Go.Proofs.YtcoiahjehlplfaaDoor
open Go.RowKit Go.Shelf Go.Lib
set_option maxRecDepth 100000
set_option linter.unusedSimpArgs false

@[go_sem] theorem eql24nil (w : World) (a : Option Addr) (n c : Nat) : (binOp .eql 24 (.slice a n c) (.slice none 0 0)).run Tryd.prog w = .ok (.bool a.isNone) w := Lib.run_eql_slice_nil w 24 63 a n c 0 0 Tryd.underlying24
theorem wpList_copyD {ops : Array Oper} {rest : List Oper} {o : Oper} {a : Act} {Q : Exit → Act → World → Prop} {W : World} (hgd : o.guard = none) (s x : Operand)
    (ho : o.op = .call { callee := .builtin .append, args := #[s, x], argTypes := #[24, 24] }) {base g : Nat} (hs : a.eval s = .slice (some ⟨g, 0, none⟩) 0 0) {v : Value} (hx : a.eval x = v)
    (hB : Blk W g 63 #[]) (hg : base ≤ g) (hW : base ≤ W.heap.size) {l : List Draw} (hl : SlD W v l) (hlen : l.length ≤ 1000)
    (h : ∀ v' W', Own encD 63 4 W' base v' l → Ext W W' → wpList Tryd.prog ops Q rest (a.put o.dst v') W') : wpList Tryd.prog ops Q (o :: rest) a W := by
  obtain ⟨v', W', hr, h1, h2⟩ := run_copy (t := 24) (ty := o.type) (enc := encD) (sz := 4) Tryd.underlying24 info63x rfl (by decide) (by decide) (fun _ => rfl) hB hg hW hl hlen
  refine wpList_plain hgd fun K hK => ?_
  unfold Oper.wp execOp
  simp only [ho, resolve, invoke, builtin, Sem.run_bind, Sem.run_pure, Result.andThen_ok, List.map_toArray, List.map_cons, List.map_nil, hs, hx, hr]
  exact hK _ _ (h v' W' h1 h2)
theorem cloneD_any (v : Value) (l : List Draw) (w : World) (hs : SlD w v l) (hlen : l.length ≤ 1000) :
    Calls Tryd.prog 123 #[v] w fun e w' => ∃ v', e = .returned v' ∧ Own encD 63 4 w' w.heap.size v' l ∧ Ext w w' := by
  have HS := Lib.hid hs
  have HL := Lib.hid hlen
  obtain ⟨A, n, c, rfl, hn, hlc, hcm⟩ := hs.form
  have HN := Lib.hid (show A.isNone = true → l = [] ∧ n = 0 from fun h => by
    obtain ⟨A', c', hv, _, _, hx⟩ := hs
    injection hv with e1 e2 e3
    subst e1 e3
    have hl0 : l = [] := by
      by_cases h0 : 0 < l.length
      · obtain ⟨_, _, h1, _⟩ := hx h0; rw [h1] at h; cases h
      · exact List.eq_nil_of_length_eq_zero (by omega)
    exact ⟨hl0, by rw [e2, hl0]; rfl⟩)
  clear hs hlen hn hlc hcm
  cases hN : A.isNone with
  | true =>
    obtain ⟨rfl, rfl⟩ := HN.out hN
    clear HS HL HN
    go_enter Tryd.func123, Tryd.ntmps123
    go_wp2
    go_ret
    exact ⟨_, rfl, Own.nil _ _, Ext.refl _⟩
  | false =>
    clear HN
    go_enter Tryd.func123, Tryd.ntmps123
    go_wp2_with (at_builtin; refine wpList_copyD rfl (.tmp 5) (.tmp 6) rfl (base := w.heap.size) (g := w.heap.size) rfl rfl (Blk.new _ _ _) (Nat.le_refl _) (by simp) (HS.out.ext (Ext.al _ _)) HL.out ?_)
    intro v1 w1 hown hext
    have HE := Lib.hid (show Ext w w1 from (Ext.al _ _).trans hext)
    go_wp2
    go_ret
    exact ⟨_, rfl, hown, HE.out⟩
@[go_sem] theorem eql25nil (w : World) (a : Option Addr) (n c : Nat) : (binOp .eql 25 (.slice a n c) (.slice none 0 0)).run Tryd.prog w = .ok (.bool a.isNone) w := Lib.run_eql_slice_nil w 25 65 a n c 0 0 Tryd.underlying25
theorem wpList_copyW {ops : Array Oper} {rest : List Oper} {o : Oper} {a : Act} {Q : Exit → Act → World → Prop} {W : World} (hgd : o.guard = none) (s x : Operand)
    (ho : o.op = .call { callee := .builtin .append, args := #[s, x], argTypes := #[25, 25] }) {base g : Nat} (hs : a.eval s = .slice (some ⟨g, 0, none⟩) 0 0) {v : Value} (hx : a.eval x = v)
    (hB : Blk W g 65 #[]) (hg : base ≤ g) (hW : base ≤ W.heap.size) {l : List Weigh} (hl : SlW W v l) (hlen : l.length ≤ 1000)
    (h : ∀ v' W', Own encW 65 4 W' base v' l → Ext W W' → wpList Tryd.prog ops Q rest (a.put o.dst v') W') : wpList Tryd.prog ops Q (o :: rest) a W := by
  obtain ⟨v', W', hr, h1, h2⟩ := run_copy (t := 25) (ty := o.type) (enc := encW) (sz := 4) Tryd.underlying25 info65x rfl (by decide) (by decide) (fun _ => rfl) hB hg hW hl hlen
  refine wpList_plain hgd fun K hK => ?_
  unfold Oper.wp execOp
  simp only [ho, resolve, invoke, builtin, Sem.run_bind, Sem.run_pure, Result.andThen_ok, List.map_toArray, List.map_cons, List.map_nil, hs, hx, hr]
  exact hK _ _ (h v' W' h1 h2)
theorem cloneW_any (v : Value) (l : List Weigh) (w : World) (hs : SlW w v l) (hlen : l.length ≤ 1000) :
    Calls Tryd.prog 124 #[v] w fun e w' => ∃ v', e = .returned v' ∧ Own encW 65 4 w' w.heap.size v' l ∧ Ext w w' := by
  have HS := Lib.hid hs
  have HL := Lib.hid hlen
  obtain ⟨A, n, c, rfl, hn, hlc, hcm⟩ := hs.form
  have HN := Lib.hid (show A.isNone = true → l = [] ∧ n = 0 from fun h => by
    obtain ⟨A', c', hv, _, _, hx⟩ := hs
    injection hv with e1 e2 e3
    subst e1 e3
    have hl0 : l = [] := by
      by_cases h0 : 0 < l.length
      · obtain ⟨_, _, h1, _⟩ := hx h0; rw [h1] at h; cases h
      · exact List.eq_nil_of_length_eq_zero (by omega)
    exact ⟨hl0, by rw [e2, hl0]; rfl⟩)
  clear hs hlen hn hlc hcm
  cases hN : A.isNone with
  | true =>
    obtain ⟨rfl, rfl⟩ := HN.out hN
    clear HS HL HN
    go_enter Tryd.func124, Tryd.ntmps124
    go_wp2
    go_ret
    exact ⟨_, rfl, Own.nil _ _, Ext.refl _⟩
  | false =>
    clear HN
    go_enter Tryd.func124, Tryd.ntmps124
    go_wp2_with (at_builtin; refine wpList_copyW rfl (.tmp 5) (.tmp 6) rfl (base := w.heap.size) (g := w.heap.size) rfl rfl (Blk.new _ _ _) (Nat.le_refl _) (by simp) (HS.out.ext (Ext.al _ _)) HL.out ?_)
    intro v1 w1 hown hext
    have HE := Lib.hid (show Ext w w1 from (Ext.al _ _).trans hext)
    go_wp2
    go_ret
    exact ⟨_, rfl, hown, HE.out⟩

/-- A slice that does not lie in block g. -/
def GoodS {α : Type} (enc : α → List Value) (g : Nat) (l : List α) (v : Value) (W : World) : Prop := Sl enc 4 W v l ∧ ∀ a n c b o, v = .slice a n c → a = some ⟨b, o, none⟩ → 0 < l.length → b ≠ g
theorem GoodS.ext {α : Type} {enc : α → List Value} {g : Nat} {l : List α} {v : Value} {W W' : World} (h : GoodS enc g l v W) (e : Ext W W') : GoodS enc g l v W' := ⟨h.1.ext e, h.2⟩
theorem GoodS.set {α : Type} {enc : α → List Value} {g i : Nat} {l : List α} {v : Value} {W : World} (h : GoodS enc g l v W) (u : Value) : GoodS enc g l v (W.setCell ⟨g, i, none⟩ u) := by
  obtain ⟨⟨a, c, hv, hl, hc, hx⟩, hf⟩ := h
  refine ⟨⟨a, c, hv, hl, hc, fun h0 => ?_⟩, hf⟩
  obtain ⟨b, off, hA, hb, hcell⟩ := hx h0
  exact ⟨b, off, hA, by simpa [World.setCell] using hb, fun k x hk j w hw => (World.cell?_of_block (a := ⟨b, _, none⟩) (Below.heap_setCell W ⟨g, i, none⟩ u b (hf a _ c b off hv hA h0))).trans (hcell k x hk j w hw)⟩
theorem GoodS.own {α : Type} {enc : α → List Value} {g base : Nat} {e : TypeId} {l : List α} {v : Value} {W : World} (henc : ∀ x, (enc x).length = 4) (h : Own enc e 4 W base v l) (hg : g < base) : GoodS enc g l v W := by
  refine ⟨Own.sl henc h, fun a n c b o hv ha _ => ?_⟩
  rcases h.2 with ⟨h2, _⟩ | ⟨g', cap', cur, e1, hb, _⟩
  · rw [hv] at h2; injection h2 with h2; rw [ha] at h2; cases h2
  · rw [hv] at e1; injection e1 with e1; rw [ha] at e1; injection e1 with e1; injection e1 with e1; omega
theorem GoodS.old {α : Type} {enc : α → List Value} {g : Nat} {l : List α} {v : Value} {w W : World} (h : Sl enc 4 w v l) (hg : w.heap.size ≤ g) (e : Ext w W) : GoodS enc g l v W := by
  refine ⟨h.ext e, fun a n c b o hv ha h0 => ?_⟩
  obtain ⟨a', c', hv', _, _, hx⟩ := h
  obtain ⟨b', off, hA, hb, _⟩ := hx h0
  rw [hv'] at hv
  injection hv with hv
  rw [← hv, hA] at ha
  injection ha with ha
  injection ha with ha
  omega
/-- Cell i of block g holds a fresh slice of l. -/
def FrC {α : Type} (enc : α → List Value) (e : TypeId) (base g i : Nat) (l : List α) (W : World) : Prop := ∃ v, W.cell? ⟨g, i, none⟩ = some v ∧ Own enc e 4 W base v l
theorem FrC.ext {α : Type} {enc : α → List Value} {e : TypeId} {base g i : Nat} {l : List α} {W W' : World} (h : FrC enc e base g i l W) (hE : Ext W W') : FrC enc e base g i l W' := by
  obtain ⟨v, h1, h2⟩ := h
  exact ⟨v, (hE.cells.1 _ _ (is_cells h1).1).trans h1, h2.ext hE⟩
def RD (b : Bale) (base g : Nat) (W W' : World) : Prop :=
  (∀ v, GoodS encD g b.draws v W → GoodS encD g b.draws v W') ∧ (∀ v, GoodS encW g b.weighs v W → GoodS encW g b.weighs v W') ∧ (∀ v, Own encD 63 4 W base v b.draws → Own encD 63 4 W' base v b.draws) ∧ (∀ v, Own encW 65 4 W base v b.weighs → Own encW 65 4 W' base v b.weighs) ∧
    (FrC encD 63 base g 4 b.draws W → FrC encD 63 base g 4 b.draws W') ∧ (FrC encW 65 base g 5 b.weighs W → FrC encW 65 base g 5 b.weighs W')
theorem RD.refl {b : Bale} {base g : Nat} (W : World) : RD b base g W W := ⟨fun _ h => h, fun _ h => h, fun _ h => h, fun _ h => h, fun h => h, fun h => h⟩
theorem RD.ext {b : Bale} {base g : Nat} {W W' : World} (e : Ext W W') : RD b base g W W' := ⟨fun _ h => h.ext e, fun _ h => h.ext e, fun _ h => h.ext e, fun _ h => h.ext e, fun h => h.ext e, fun h => h.ext e⟩
theorem RD.set4 {b : Bale} {base g : Nat} {W : World} {dx : Value} (hg : g < base) (hd : Own encD 63 4 W base dx b.draws) : RD b base g W (W.setCell ⟨g, 4, none⟩ dx) ∧ ((∃ u, W.cell? ⟨g, 4, none⟩ = some u) → FrC encD 63 base g 4 b.draws (W.setCell ⟨g, 4, none⟩ dx)) :=
  have key : (∃ u, W.cell? ⟨g, 4, none⟩ = some u) → FrC encD 63 base g 4 b.draws (W.setCell ⟨g, 4, none⟩ dx) := fun ⟨_, hu⟩ => ⟨dx, World.cell?_setCell_same (h := hu) .., hd.far hg _⟩
  ⟨⟨fun _ h => h.set _, fun _ h => h.set _, fun _ h => h.far hg _, fun _ h => h.far hg _, fun ⟨u, hu, _⟩ => key ⟨u, hu⟩, fun ⟨v, h1, h2⟩ => ⟨v, (World.cell?_setCell_other (h := by intro e; injection e with _ e _; omega) ..).trans h1, h2.far hg _⟩⟩, key⟩
theorem RD.set5 {b : Bale} {base g : Nat} {W : World} {wx : Value} (hg : g < base) (hd : Own encW 65 4 W base wx b.weighs) : RD b base g W (W.setCell ⟨g, 5, none⟩ wx) ∧ ((∃ u, W.cell? ⟨g, 5, none⟩ = some u) → FrC encW 65 base g 5 b.weighs (W.setCell ⟨g, 5, none⟩ wx)) :=
  have key : (∃ u, W.cell? ⟨g, 5, none⟩ = some u) → FrC encW 65 base g 5 b.weighs (W.setCell ⟨g, 5, none⟩ wx) := fun ⟨_, hu⟩ => ⟨wx, World.cell?_setCell_same (h := hu) .., hd.far hg _⟩
  ⟨⟨fun _ h => h.set _, fun _ h => h.set _, fun _ h => h.far hg _, fun _ h => h.far hg _, fun ⟨v, h1, h2⟩ => ⟨v, (World.cell?_setCell_other (h := by intro e; injection e with _ e _; omega) ..).trans h1, h2.far hg _⟩, fun ⟨u, hu, _⟩ => key ⟨u, hu⟩⟩, key⟩
/-- The world while a bale is copied: but for block g nothing has turned, and block g is the bale's. -/
def CD (b : Bale) (w : World) (g : Nat) (W : World) : Prop := w.grownBy W (some g) ∧ ∃ dx wx, Blk W g 27 #[.int .i64 b.id, .int .i64 b.layers, .int .i64 b.dry.lo, .int .i64 b.dry.hi, dx, wx] ∧ GoodS encD g b.draws dx W ∧ GoodS encW g b.weighs wx W
theorem CD.ext {b : Bale} {w : World} {g : Nat} {W W' : World} (h : CD b w g W) (e : Ext W W') : CD b w g W' := by
  obtain ⟨h1, dx, wx, h2, h3, h4⟩ := h
  exact ⟨grown_ext h1 e, dx, wx, h2.ext e, h3.ext e, h4.ext e⟩

set_option maxHeartbeats 1000000 in
theorem copied_any (b : Bale) (dv wv : Value) (w : World) (hd : SlD w dv b.draws) (hw : SlW w wv b.weighs) (hld : b.draws.length ≤ 1000) (hlw : b.weighs.length ≤ 1000) :
    Calls Tryd.prog 91 #[valB b dv wv] w fun e w' => (∃ v, e = .returned v ∧ TwinV b w.heap.size v w') ∧ Ext w w' := by
  have HD := Lib.hid hd
  have HW := Lib.hid hw
  obtain ⟨A, n, cp, rfl, hn, hlc, hcm⟩ := hd.form
  obtain ⟨A2, n2, cp2, rfl, hn2, hlc2, hcm2⟩ := hw.form
  clear hd hw
  go_enter Tryd.func91, Tryd.ntmps91
  go_wp2
  generalize hW0 : (w.alloc (.cells #[.int .i64 b.id, .int .i64 b.layers, .int .i64 b.dry.lo, .int .i64 b.dry.hi, .slice A n cp, .slice A2 n2 cp2] 27)).alloc (.cells #[.int .i64 0, .int .i64 0, .int .i64 0, .int .i64 0, .slice none 0 0, .slice none 0 0] 27) = w1
  have HE := Lib.hid (show Ext w w1 from hW0 ▸ ((Ext.al w _).alloc _))
  have hsz : w1.heap.size = w.heap.size + 2 := by rw [← hW0]; simp
  have HB1 := Lib.hid (show Blk w1 w.heap.size 27 #[.int .i64 b.id, .int .i64 b.layers, .int .i64 b.dry.lo, .int .i64 b.dry.hi, .slice A n cp, .slice A2 n2 cp2] from hW0 ▸ ((Blk.at_ rfl).alloc _))
  have HB2 := Lib.hid (show Blk w1 (w.heap.size + 1) 27 #[.int .i64 0, .int .i64 0, .int .i64 0, .int .i64 0, .slice none 0 0, .slice none 0 0] from hW0 ▸ (Blk.at_ (by simp)))
  clear hW0
  have hgb : w.heap.size < w1.heap.size := by omega
  have HSZ := Lib.hid hsz; clear hsz
  refine wp_region_tame (CD b w1 w.heap.size) (RD b w1.heap.size w.heap.size) (by kernel_rfl) 12 rfl (by decide +kernel) ?_ ?_
  · exact ⟨⟨rfl, rfl, rfl, Nat.le_refl _, fun _ _ _ => rfl⟩, _, _, HB1.out, GoodS.old HD.out (Nat.le_refl _) HE.out.drew, GoodS.old HW.out (Nat.le_refl _) HE.out.drew⟩
  repeat (apply tame_q rfl; (intro ρ W hC hr hD; (obtain ⟨hrc, hrg, hrf, hrs⟩ := hr); (simp [go_sem] at hD); go_simp; first | exact ⟨⟨hC, RD.refl _⟩, rfl⟩ | exact rfl); simp only [List.nil_append, List.cons_append])
  apply tame_v rfl (GoodS encD w.heap.size b.draws) (fun v W W' _ hR h => hR.1 v h)
  · intro ρ W hC hr hD
    obtain ⟨hrc, hrg, hrf, hrs⟩ := hr
    simp [go_sem] at hD
    obtain ⟨hg, dx, wx, hB, g1, g2⟩ := id hC
    have c4 := hB.cell 4
    simp at c4
    go_simp
    exact ⟨hC, RD.refl _⟩
  simp only [List.nil_append, List.cons_append]
  apply tame_v rfl (fun v W => Own encD 63 4 W w1.heap.size v b.draws) (fun v W W' _ hR h => hR.2.2.1 v h)
  · intro ρ W hC hr hD
    obtain ⟨hrc, hrg, hrf, hrs⟩ := hr
    simp [go_sem] at hD
    go_simp
    refine (cloneD_any _ b.draws W hD.1 hld).mono ?_
    rintro e w' ⟨v', rfl, ho, hE⟩
    exact ⟨_, rfl, ⟨hC.ext hE, RD.ext hE⟩, ho.mono hC.1.size⟩
  simp only [List.nil_append, List.cons_append]
  repeat (apply tame_q rfl; (intro ρ W hC hr hD; (obtain ⟨hrc, hrg, hrf, hrs⟩ := hr); (simp [go_sem] at hD); go_simp; first | exact ⟨⟨hC, RD.refl _⟩, rfl⟩ | exact rfl); simp only [List.nil_append, List.cons_append])
  apply tame_v rfl (GoodS encW w.heap.size b.weighs) (fun v W W' _ hR h => hR.2.1 v h)
  · intro ρ W hC hr hD
    obtain ⟨hrc, hrg, hrf, hrs⟩ := hr
    simp [go_sem] at hD
    obtain ⟨hg, dx, wx, hB, g1, g2⟩ := id hC
    have c5 := hB.cell 5
    simp at c5
    go_simp
    exact ⟨hC, RD.refl _⟩
  simp only [List.nil_append, List.cons_append]
  apply tame_v rfl (fun v W => Own encW 65 4 W w1.heap.size v b.weighs) (fun v W W' _ hR h => hR.2.2.2.1 v h)
  · intro ρ W hC hr hD
    obtain ⟨hrc, hrg, hrf, hrs⟩ := hr
    simp [go_sem] at hD
    go_simp
    refine (cloneW_any _ b.weighs W hD.1.1 hlw).mono ?_
    rintro e w' ⟨v', rfl, ho, hE⟩
    exact ⟨_, rfl, ⟨hC.ext hE, RD.ext hE⟩, ho.mono hC.1.size⟩
  simp only [List.nil_append, List.cons_append]
  repeat (apply tame_q rfl; (intro ρ W hC hr hD; (obtain ⟨hrc, hrg, hrf, hrs⟩ := hr); (simp [go_sem] at hD); go_simp; first | exact ⟨⟨hC, RD.refl _⟩, rfl⟩ | exact rfl); simp only [List.nil_append, List.cons_append])
  apply tame_n (fun _ W => FrC encD 63 w1.heap.size w.heap.size 4 b.draws W) (fun _ W W' _ hR h => hR.2.2.2.2.1 h)
  · intro ρ W hC hr hD
    obtain ⟨hrc, hrg, hrf, hrs⟩ := hr
    simp [go_sem] at hD
    obtain ⟨h9, h5, -⟩ := hD
    obtain ⟨hg, dx, wx, hB, g1, g2⟩ := hC
    have c4 := hB.cell 4
    have cf := hB.frozen
    simp at c4
    obtain ⟨Ad, nd, cd, ed, -, -, -⟩ := (show SlD W (ρ (.tmp 5)) b.draws from h5.sl (fun _ => rfl)).form
    rw [ed] at h5
    have H5 := Lib.hid h5; have HB := Lib.hid hB; have HG := Lib.hid hg; have G2 := Lib.hid g2
    clear h5 hB hg g1 g2
    go_simp
    obtain ⟨r1, r2⟩ := RD.set4 (b := b) (base := w1.heap.size) (W := W) hgb H5.out
    exact ⟨⟨⟨grown_set HG.out (p := ⟨w.heap.size, 4, none⟩) (.inl rfl) _, _, _, by simpa using HB.out.set_ 4 (.slice Ad nd cd), GoodS.own (fun _ => rfl) (H5.out.far (a := ⟨w.heap.size, 4, none⟩) hgb _) hgb, G2.out.set _⟩, r1⟩, r2 ⟨_, c4⟩⟩
  simp only [List.nil_append, List.cons_append]
  repeat (apply tame_q rfl; (intro ρ W hC hr hD; (obtain ⟨hrc, hrg, hrf, hrs⟩ := hr); (simp [go_sem] at hD); go_simp; first | exact ⟨⟨hC, RD.refl _⟩, rfl⟩ | exact rfl); simp only [List.nil_append, List.cons_append])
  apply tame_n (fun _ W => FrC encW 65 w1.heap.size w.heap.size 5 b.weighs W) (fun _ W W' _ hR h => hR.2.2.2.2.2 h)
  · intro ρ W hC hr hD
    obtain ⟨hrc, hrg, hrf, hrs⟩ := hr
    simp [go_sem] at hD
    obtain ⟨h10, h8, -⟩ := hD
    obtain ⟨hg, dx, wx, hB, g1, g2⟩ := hC
    have c5 := hB.cell 5
    have cf := hB.frozen
    simp at c5
    obtain ⟨Ad, nd, cd, ed, -, -, -⟩ := (show SlW W (ρ (.tmp 8)) b.weighs from h8.sl (fun _ => rfl)).form
    rw [ed] at h8
    have H8 := Lib.hid h8; have HB := Lib.hid hB; have HG := Lib.hid hg; have G1 := Lib.hid g1
    clear h8 hB hg g1 g2
    go_simp
    obtain ⟨r1, r2⟩ := RD.set5 (b := b) (base := w1.heap.size) (W := W) hgb H8.out
    exact ⟨⟨⟨grown_set HG.out (p := ⟨w.heap.size, 5, none⟩) (.inl rfl) _, _, _, by simpa using HB.out.set_ 5 (.slice Ad nd cd), G1.out.set _, GoodS.own (fun _ => rfl) (H8.out.far (a := ⟨w.heap.size, 5, none⟩) hgb _) hgb⟩, r1⟩, r2 ⟨_, c5⟩⟩
  simp only [List.nil_append, List.cons_append]
  refine tame_end 12 rfl rfl (fun ρ W hC hr hF => ?_)
  obtain ⟨hrc, hrg, hrf, hrs⟩ := hr
  simp [go_sem] at hF
  obtain ⟨f3, f4, f5, f6, f7, f8, f9, fD, f10, fW⟩ := hF
  obtain ⟨hg, dx, wx, hB, -, -⟩ := hC
  obtain ⟨dx', e4, o1⟩ := fD
  obtain ⟨wx', e5, o2⟩ := fW
  obtain rfl : dx' = dx := by have := hB.cell 4; rw [e4] at this; simpa using this
  obtain rfl : wx' = wx := by have := hB.cell 5; rw [e5] at this; simpa using this
  obtain ⟨Ad, nd, cd, rfl, -, -, -⟩ := (show SlD W dx' b.draws from o1.sl (fun _ => rfl)).form
  obtain ⟨Aw, nw, cw, rfl, -, -, -⟩ := (show SlW W wx' b.weighs from o2.sl (fun _ => rfl)).form
  have O1 := Lib.hid o1; have O2 := Lib.hid o2; have HG := Lib.hid hg; have HBW := Lib.hid hB
  have HB3 := Lib.hid (HB2.out.grown hg (by intro e; injection e with e; omega))
  generalize ρ (Operand.tmp 4) = v4 at *
  generalize ρ (Operand.tmp 5) = v5 at *
  generalize ρ (Operand.tmp 7) = v7 at *
  generalize ρ (Operand.tmp 8) = v8 at *
  apply frame_to
  · go_simp
    exact rfl
  clear f3 f4 f5 f6 f7 f8 f9 f10 e4 e5 o1 o2 hg hB hrc hrg hrf hrs
  have x0 := HBW.out.cell 0
  have x1 := HBW.out.cell 1
  have x2 := HBW.out.cell 2
  have x3 := HBW.out.cell 3
  have x4 := HBW.out.cell 4
  have x5 := HBW.out.cell 5
  have xl := HBW.out.lt
  have tf := HB3.out.frozen
  have tl := HB3.out.lt
  have t0 := HB3.out.cell 0
  have t1 := HB3.out.cell 1
  have t2 := HB3.out.cell 2
  have t3 := HB3.out.cell 3
  have t4 := HB3.out.cell 4
  have t5 := HB3.out.cell 5
  simp at x0 x1 x2 x3 x4 x5 t0 t1 t2 t3 t4 t5
  go_wp2
  refine ret_set6 HB3.out fun W' ⟨b0, b1, b2, b3, b4, b5⟩ hW => ?_
  have hsz := HSZ.out
  refine bodyPost_ret (v := valB b (.slice Ad nd cd) (.slice Aw nw cw)) (by simp [results, Tryd.results91, go_sem, b0, b1, b2, b3, b4, b5]) rfl ?_
  exact ⟨⟨_, rfl, ⟨_, _, rfl, own_mono (own_kept O1.out hW (by omega)) (by omega), own_mono (own_kept O2.out hW (by omega)) (by omega)⟩⟩, ext_grown (ext_grown HE.out HG.out (Nat.le_refl _)) hW (by omega)⟩
end Go.Proofs.YtcoiahjehlplfaaDoor
/- slices.SortStableFunc at draws and weighings, of at most twenty: insertion sort by their numbers. -/
namespace Go.Proofs.YtcoiahjehlplfaaDoor
open Go.RowKit Go.Shelf Go.Lib
set_option maxRecDepth 100000
set_option linter.unusedSimpArgs false

def cmpI (a b : Int) : Int := if a < b then -1 else if b < a then 1 else 0
theorem nan_any (x : Int) (w : World) : Calls Tryd.prog 126 #[.int .i64 x] w fun e w' => e = .returned (.bool false) ∧ Ext w w' := by
  go_enter Tryd.func126, Tryd.ntmps126
  go_wp2
  go_ret
  exact ⟨by simp, Ext.refl _⟩
theorem compare_any (a b : Int) (w : World) : Calls Tryd.prog 94 #[.int .i64 a, .int .i64 b] w fun e w' => e = .returned (.int .i64 (cmpI a b)) ∧ Ext w w' := by
  go_enter Tryd.func94, Tryd.ntmps94
  go_wp2_with fail
  refine (nan_any a w).mono ?_
  rintro e w1 ⟨rfl, hE1⟩
  have HE1 := Lib.hid hE1; clear hE1
  go_wp2_with fail
  refine (nan_any b w1).mono ?_
  rintro e w2 ⟨rfl, hE2⟩
  have HE2 := Lib.hid (HE1.out.trans hE2); clear hE2
  by_cases h1 : a < b
  · have HC := Lib.hid (show cmpI a b = -1 by unfold cmpI; rw [if_pos h1])
    go_wp2
    go_ret
    exact ⟨by rw [HC.out]; rfl, HE2.out⟩
  · by_cases h2 : b < a
    · have HC := Lib.hid (show cmpI a b = 1 by unfold cmpI; rw [if_neg h1, if_pos h2])
      go_wp2
      go_ret
      exact ⟨by rw [HC.out]; rfl, HE2.out⟩
    · have HC := Lib.hid (show cmpI a b = 0 by unfold cmpI; rw [if_neg h1, if_neg h2])
      go_wp2
      go_ret
      exact ⟨by rw [HC.out]; rfl, HE2.out⟩
theorem wrap_nat {k : Nat} (h : k ≤ 100000) : IntKind.i64.wrap (k : Int) = (k : Int) := by
  rw [IntKind.wrap_i64]
  omega
theorem own_at63 {W : World} {base g n c k : Nat} {m : List Draw} {y : Draw} (h : Own encD 63 4 W base (.slice (some ⟨g, 0, none⟩) n c) m) (hy : m[k]? = some y) :
    W.cell? ⟨g, k * 4, none⟩ = some (.int .i64 y.number) ∧ W.cell? ⟨g, k * 4 + 1, none⟩ = some (.int .i64 y.layer) ∧ W.cell? ⟨g, k * 4 + 2, none⟩ = some (.int .i64 y.grade.lo) ∧ W.cell? ⟨g, k * 4 + 3, none⟩ = some (.int .i64 y.grade.hi) ∧ g < W.heap.size := by
  have hsl : SlD W (.slice (some ⟨g, 0, none⟩) n c) m := h.sl (fun _ => rfl)
  have hk : k < n := by
    have h1 := (List.getElem?_eq_some_iff.1 hy).1
    obtain ⟨_, _, e, _⟩ := hsl
    injection e with _ e _
    omega
  obtain ⟨bb, off, y', e1, hy', hb, hc⟩ := hsl.at_ hk
  injection e1 with e1
  injection e1 with e1 e2 _
  subst e1 e2
  rw [hy] at hy'
  injection hy' with hy'
  subst hy'
  obtain ⟨c0, c1, c2, c3⟩ := SlD.cells hc (Ext.refl _)
  simp only [Nat.zero_add] at c0 c1 c2 c3
  exact ⟨c0, c1, c2, c3, hb⟩
theorem f93_any (x y : Draw) (w : World) : Calls Tryd.prog 93 #[valD x, valD y] w fun e w' => e = .returned (.int .i64 (cmpI x.number y.number)) ∧ Ext w w' := by
  dsimp only [valD]
  go_enter Tryd.func93, Tryd.ntmps93
  go_wp2_with fail
  refine (compare_any x.number y.number _).mono ?_
  rintro e w1 ⟨rfl, hE1⟩
  have HE1 := Lib.hid ((((Ext.al _ _).alloc _ : Ext w _)).trans hE1); clear hE1
  go_wp2
  go_ret
  exact ⟨rfl, HE1.out⟩

/-- Where a draw comes to stand. -/
def stopD (S : List Draw) (x : Draw) : Nat → Nat
  | 0 => 0
  | j + 1 => match S[j]? with
    | some y => if x.number < y.number then stopD S x j else j + 1
    | none => j + 1
def putD (S : List Draw) (x : Draw) (j : Nat) : List Draw := S.take j ++ x :: S.drop j
def sortD (l : List Draw) : Nat → List Draw
  | 0 => []
  | k + 1 => match l[k]? with
    | some x => putD (sortD l k) x (stopD (sortD l k) x k)
    | none => sortD l k
theorem stopD_le (S : List Draw) (x : Draw) : ∀ j, stopD S x j ≤ j
  | 0 => Nat.le_refl _
  | j + 1 => by
    unfold stopD
    split
    · split
      · exact Nat.le_succ_of_le (stopD_le S x j)
      · exact Nat.le_refl _
    · exact Nat.le_refl _
theorem putD_len (S : List Draw) (x : Draw) {j : Nat} (hj : j ≤ S.length) : (putD S x j).length = S.length + 1 := by unfold putD; simp; omega
theorem sortD_len (l : List Draw) : ∀ k, k ≤ l.length → (sortD l k).length = k
  | 0, _ => rfl
  | k + 1, h => by
    have ih := sortD_len l k (by omega)
    unfold sortD
    rw [List.getElem?_eq_getElem (show k < l.length by omega)]
    simp only
    rw [putD_len _ _ (by rw [ih]; exact stopD_le _ _ _), ih]
theorem putD_at (S T : List Draw) (x : Draw) {j : Nat} (hj : j ≤ S.length) : (putD S x j ++ T)[j]? = some x := by
  unfold putD
  rw [List.append_assoc, List.getElem?_append_right (by simp; omega)]
  simp [List.length_take, Nat.min_eq_left hj]
theorem putD_before (S T : List Draw) (x : Draw) {j : Nat} (hj : j < S.length) : (putD S x (j + 1) ++ T)[j]? = S[j]? := by
  unfold putD
  rw [List.append_assoc, List.getElem?_append_left (by simp; omega), List.getElem?_take, if_pos (by omega)]
theorem putD_swap (S T : List Draw) (x y : Draw) {j : Nat} (hy : S[j]? = some y) : ((putD S x (j + 1) ++ T).set (j + 1) y).set j x = putD S x j ++ T := by
  have hj : j < S.length := (List.getElem?_eq_some_iff.1 hy).1
  have h1 : S.take (j + 1) = S.take j ++ [y] := by rw [List.take_add_one, hy]; rfl
  have h2 : S.drop j = y :: S.drop (j + 1) := drop_at hy
  unfold putD
  rw [h1, h2]
  have hl : (S.take j).length = j := by simp; omega
  rw [show List.take j S ++ [y] ++ x :: List.drop (j + 1) S ++ T = List.take j S ++ (y :: x :: (List.drop (j + 1) S ++ T)) by simp]
  rw [List.set_append_right (j + 1) y (by omega), List.set_append_right j x (by omega), hl]
  rw [show j + 1 - j = 1 by omega, Nat.sub_self]
  simp
theorem putD_end (S T : List Draw) (x : Draw) : putD S x S.length ++ T = S ++ (x :: T) := by unfold putD; simp

set_option maxHeartbeats 2000000 in
theorem f135_any (l : List Draw) (g n c base : Nat) (w : World) (hn : n = l.length) (hn0 : 0 < n) (hn20 : n ≤ 20) (ho : Own encD 63 4 w base (.slice (some ⟨g, 0, none⟩) n c) l) :
    Calls Tryd.prog 135 #[.slice (some ⟨g, 0, none⟩) n c, .int .i64 0, .int .i64 (n : Int), .func (.func 93) #[] #[]] w fun e w' => (∃ v, e = .returned v) ∧ Own encD 63 4 w' base (.slice (some ⟨g, 0, none⟩) n c) (sortD l n) ∧ w.grownBy w' (some g) := by
  have HO := Lib.hid ho
  have HN := Lib.hid hn
  have eg : ∀ args w, (callFunc 93 args).run Tryd.prog w = .ok (.enter 93 args) w := enters_of Tryd.func93 (by kernel_rfl) rfl
  clear ho hn
  go_enter Tryd.func135, Tryd.ntmps135
  go_wp2
  go_loopg [8, 9] n (fun gg s8 _ wr => ∃ i : Nat, 1 ≤ i ∧ i ≤ n ∧ n - i ≤ gg ∧ s8 = .int .i64 (i : Int) ∧ Aside (Own encD 63 4 wr base (.slice (some ⟨g, 0, none⟩) n c) (sortD l i ++ l.drop i)) ∧ Aside (w.grownBy wr (some g)))
  case atStart => exact ⟨1, by omega, by omega, by omega, rfl, by
    have h0 : 0 < l.length := by have := HN.out; omega
    have : sortD l 1 ++ l.drop 1 = l := by
      match l, h0 with
      | x :: r, _ => simp [sortD, stopD, putD]
    rw [this]; exact HO.out, World.grownBy.refl _ _⟩
  case round =>
    obtain ⟨i, hi1, hin, hgg, rfl, OW, GW⟩ := hrel
    by_cases hiN : i < n
    · have hiz : (i : Int) < (n : Int) := by omega
      obtain ⟨x, hx⟩ : ∃ x, l[i]? = some x := ⟨_, List.getElem?_eq_getElem (by have := HN.out; omega)⟩
      have HX := Lib.hid hx
      have HSL := Lib.hid (sortD_len l i (by have := HN.out; omega))
      have HSS := Lib.hid (show sortD l (i + 1) = putD (sortD l i) x (stopD (sortD l i) x i) by rw [sortD, hx])
      have HDR := Lib.hid (show sortD l i ++ l.drop i = putD (sortD l i) x i ++ l.drop (i + 1) by
        rw [drop_at hx]
        have := putD_end (sortD l i) (l.drop (i + 1)) x
        rw [HSL.out] at this
        exact this.symm)
      rw [HDR.out] at OW
      clear hx
      generalize sortD l i = S at *
      generalize hTT : l.drop (i + 1) = T at *
      have HTT := Lib.hid hTT; clear hTT
      obtain ⟨wo, hwo⟩ : ∃ wo : World, wo = wr := ⟨_, rfl⟩
      subst hwo
      go_wp2_with fail
      go_loopg [9] i (fun gg s9 wr => ∃ j : Nat, j ≤ i ∧ j ≤ gg ∧ s9 = .int .i64 (j : Int) ∧ Aside (Own encD 63 4 wr base (.slice (some ⟨g, 0, none⟩) n c) (putD S x j ++ T)) ∧ Aside (stopD S x i = stopD S x j) ∧ Aside (w.grownBy wr (some g)))
      case atStart => exact ⟨i, by omega, by omega, rfl, OW.out, rfl, GW.out⟩
      case round =>
        obtain ⟨j, hji, hgj, rfl, OJ, ST, GJ⟩ := hrel
        by_cases hj0 : j = 0
        · subst hj0
          have HFI := Lib.hid (show Own encD 63 4 wr base (.slice (some ⟨g, 0, none⟩) n c) (sortD l (i + 1) ++ T) by rw [HSS.out, ST.out]; exact OJ.out)
          go_wp2_with fail
          refine wp_region_tame (fun W => Ext wr W) (fun W W' => Ext W W') (by kernel_rfl) 53 rfl (by decide +kernel) (Ext.refl _).drew ?_
          repeat (apply tame_q rfl; (intro ρ W hC hr hD; (obtain ⟨hrc, hrg, hrf, hrs⟩ := hr); (simp [go_sem] at hD); go_simp; first | exact ⟨⟨hC, Ext.refl _⟩, rfl⟩ | exact ⟨⟨hC, RS.refl _⟩, rfl⟩ | exact rfl); simp only [List.nil_append, List.cons_append])
          refine tame_end 53 rfl rfl (fun ρ W hC hr hF => ?_)
          obtain ⟨hrc, hrg, hrf, hrs⟩ := hr
          simp [go_sem] at hF
          apply frame_to
          · go_simp
            exact rfl
          have HFI := Lib.hid (HFI.out.ext hC)
          have GJ2 := Lib.hid (grown_ext GJ.out hC)
          clear hF hrs hrc hrg hrf hC
          go_wp2
          go_roundg (n - (i + 1))
          case measure => omega
          case rel => exact ⟨i + 1, by omega, by omega, by omega, by simp, by rw [HTT.out]; exact HFI.out, GJ2.out⟩
        · obtain ⟨k, hk⟩ : ∃ k, j = k + 1 := ⟨j - 1, by omega⟩
          have HK := Lib.hid hk
          have hkn : k < n := by omega
          have hjn : j < n := by omega
          have hjS : j ≤ S.length := by have := HSL.out; omega
          obtain ⟨y, hy⟩ : ∃ y, S[k]? = some y := ⟨_, List.getElem?_eq_getElem (by omega)⟩
          have HY := Lib.hid hy
          have hsl : SlD wr (.slice (some ⟨g, 0, none⟩) n c) (putD S x j ++ T) := OJ.out.sl (fun _ => rfl)
          obtain ⟨bb, off, x', e1, hx', -, hxc⟩ := hsl.at_ hjn
          injection e1 with e1
          injection e1 with e1 e2 _
          subst e1 e2
          obtain rfl : x' = x := by rw [putD_at S T x hjS] at hx'; injection hx' with h; exact h.symm
          obtain ⟨bb, off, y', e1, hy', -, hyc⟩ := hsl.at_ hkn
          injection e1 with e1
          injection e1 with e1 e2 _
          subst e1 e2
          obtain rfl : y' = y := by rw [hk, putD_before S T x' (by omega), hy] at hy'; injection hy' with h; exact h.symm
          have cx := fun W (h : Ext wr W) => SlD.cells hxc h
          have cy := fun W (h : Ext wr W) => SlD.cells hyc h
          simp only [Nat.zero_add] at cx cy
          have x0 := fun W (h : Ext wr W) => (cx W h).1
          have x1 := fun W (h : Ext wr W) => (cx W h).2.1
          have x2 := fun W (h : Ext wr W) => (cx W h).2.2.1
          have x3 := fun W (h : Ext wr W) => (cx W h).2.2.2
          have y0 := fun W (h : Ext wr W) => (cy W h).1
          have y1 := fun W (h : Ext wr W) => (cy W h).2.1
          have y2 := fun W (h : Ext wr W) => (cy W h).2.2.1
          have y3 := fun W (h : Ext wr W) => (cy W h).2.2.2
          have hjz : (0 : Int) < (j : Int) := by omega
          have hjp : 0 < j := by omega
          have hjz2 : (j : Int) < (n : Int) := by omega
          have hjs : (j : Int) - 1 = (k : Int) := by omega
          have hkz2 : (k : Int) < (n : Int) := by omega
          clear hk hx' hy' hsl hy cx cy hxc hyc
          have hwk := wrap_nat (k := k) (by omega)
          have hmj : (putD S x' j ++ T)[j]? = some x' := putD_at S T x' hjS
          have hmk : (putD S x' j ++ T)[k]? = some y' := by rw [HK.out, putD_before S T x' (by have := HK.out; omega)]; exact HY.out
          have hml : (putD S x' j ++ T).length = n := by have := OJ.out.sl (fun _ => rfl) (enc := encD); obtain ⟨_, _, e, _⟩ := this; injection e with _ e _; exact e.symm
          by_cases hxy : x'.number < y'.number
          · have hcv : cmpI x'.number y'.number = -1 := by unfold cmpI; rw [if_pos hxy]
            have HST := Lib.hid (show stopD S x' i = stopD S x' k by rw [ST.out, HK.out, stopD, HY.out]; simp only; rw [if_pos hxy])
            have HSW := Lib.hid (show ((putD S x' j ++ T).set j y').set k x' = putD S x' k ++ T by rw [HK.out]; exact putD_swap S T x' y' HY.out)
            go_wp2_with fail
            refine wp_region_tame (fun W => Ext wr W) (fun W W' => Ext W W') (by kernel_rfl) 53 rfl (by decide +kernel) (Ext.refl _).drew ?_
            repeat (apply tame_q rfl; (intro ρ W hC hr hD; (obtain ⟨hrc, hrg, hrf, hrs⟩ := hr); (simp [go_sem] at hD); go_simp; first | exact ⟨⟨hC, Ext.refl _⟩, rfl⟩ | exact ⟨⟨hC, RS.refl _⟩, rfl⟩ | exact rfl); simp only [List.nil_append, List.cons_append])
            apply tame_q rfl
            · intro ρ W hC hr hD
              obtain ⟨hrc, hrg, hrf, hrs⟩ := hr
              simp [go_sem] at hD
              go_simp
              refine (f93_any x' y' W).mono ?_
              rintro e w' ⟨rfl, hE⟩
              rw [hcv]
              exact ⟨_, rfl, ⟨hC.trans hE, hE⟩, rfl⟩
            simp only [List.nil_append, List.cons_append]
            repeat (apply tame_q rfl; (intro ρ W hC hr hD; (obtain ⟨hrc, hrg, hrf, hrs⟩ := hr); (simp [go_sem] at hD); go_simp; first | exact ⟨⟨hC, Ext.refl _⟩, rfl⟩ | exact ⟨⟨hC, RS.refl _⟩, rfl⟩ | exact rfl); simp only [List.nil_append, List.cons_append])
            refine tame_end 53 rfl rfl (fun ρ W hC hr hF => ?_)
            obtain ⟨hrc, hrg, hrf, hrs⟩ := hr
            simp [go_sem] at hF
            apply frame_to
            · go_simp
              exact rfl
            have OJ2 := Lib.hid (OJ.out.ext hC)
            have GJ2 := Lib.hid (grown_ext GJ.out hC)
            clear hF hrs hrc hrg hrf x0 x1 x2 x3 y0 y1 y2 y3 hC hcv
            generalize hm0 : putD S x' j ++ T = m0 at *
            go_wp2_with fail
            refine wp_region_tameN_cut (fun W' => W.grownBy W' (some g) ∧ ∃ m, Own encD 63 4 W' base (.slice (some ⟨g, 0, none⟩) n c) m ∧ m.length = n) (fun A B => Own encD 63 4 A base (.slice (some ⟨g, 0, none⟩) n c) (m0.set j y') → Own encD 63 4 B base (.slice (some ⟨g, 0, none⟩) n c) (m0.set j y')) (fun W' => Own encD 63 4 W' base (.slice (some ⟨g, 0, none⟩) n c) m0) 15 (by kernel_rfl) 53 rfl _ rfl (by decide +kernel) (by decide +kernel) (by decide +kernel) rfl ⟨⟨rfl, rfl, rfl, Nat.le_refl _, fun _ _ _ => rfl⟩, m0, OJ2.out, hml⟩ OJ2.out ?_
            simp only [List.dropLast]
            repeat (apply tameN_q rfl; (intro ρ W hC hN hr hD; (obtain ⟨hrc, hrg, hrf, hrs⟩ := hr); (simp [go_sem] at hD); go_simp; first | exact ⟨⟨hC, fun h => h, fun _ h => h⟩, rfl⟩ | exact ⟨hC, fun h => h, fun _ h => h⟩ | exact rfl); simp only [List.nil_append, List.cons_append])
            apply tameN_q rfl
            · intro ρ W' hC hN hr hD
              obtain ⟨hrc, hrg, hrf, hrs⟩ := hr
              simp [go_sem] at hD
              obtain ⟨b0, b1, b2, b3, bl⟩ := own_at63 (hN rfl) hmk
              go_simp
              first | exact ⟨⟨hC, fun h => h, fun _ h => h⟩, rfl⟩ | exact ⟨hC, fun h => h, fun _ h => h⟩
            simp only [List.nil_append, List.cons_append]
            repeat (apply tameN_q rfl; (intro ρ W hC hN hr hD; (obtain ⟨hrc, hrg, hrf, hrs⟩ := hr); (simp [go_sem] at hD); go_simp; first | exact ⟨⟨hC, fun h => h, fun _ h => h⟩, rfl⟩ | exact ⟨hC, fun h => h, fun _ h => h⟩ | exact rfl); simp only [List.nil_append, List.cons_append])
            apply tameN_q rfl
            · intro ρ W' hC hN hr hD
              obtain ⟨hrc, hrg, hrf, hrs⟩ := hr
              simp [go_sem] at hD
              obtain ⟨b0, b1, b2, b3, bl⟩ := own_at63 (hN rfl) hmj
              go_simp
              first | exact ⟨⟨hC, fun h => h, fun _ h => h⟩, rfl⟩ | exact ⟨hC, fun h => h, fun _ h => h⟩
            simp only [List.nil_append, List.cons_append]
            repeat (apply tameN_q rfl; (intro ρ W hC hN hr hD; (obtain ⟨hrc, hrg, hrf, hrs⟩ := hr); (simp [go_sem] at hD); go_simp; first | exact ⟨⟨hC, fun h => h, fun _ h => h⟩, rfl⟩ | exact ⟨hC, fun h => h, fun _ h => h⟩ | exact rfl); simp only [List.nil_append, List.cons_append])
            apply tameN_n (fun _ W' => Own encD 63 4 W' base (.slice (some ⟨g, 0, none⟩) n c) (m0.set j y')) (fun _ A B _ hR h => hR h)
            · intro ρ W' hC hN hr hD
              obtain ⟨hrc, hrg, hrf, hrs⟩ := hr
              simp [go_sem] at hD
              have h0 := hN rfl
              obtain ⟨a0, a1, a2, a3, al⟩ := own_at63 h0 hmj
              have df : ∀ k, W'.frozen? ⟨g, k, none⟩ = false := fun k => own_frozen h0 k
              have h4 := own_put4 (enc := encD) (fun _ => rfl) (x := y') rfl h0 hml.symm (show j < n from hjn)
              have H4 := Lib.hid h4; have HC := Lib.hid hC.1
              clear h4 h0 hN hC
              go_simp
              exact ⟨⟨⟨grown_set (grown_set (grown_set (grown_set HC.out (p := ⟨g, _, none⟩) (.inl rfl) _) (p := ⟨g, _, none⟩) (.inl rfl) _) (p := ⟨g, _, none⟩) (.inl rfl) _) (p := ⟨g, _, none⟩) (.inl rfl) _, _, H4.out, by rw [List.length_set]; exact hml⟩, fun _ => H4.out, fun h => by cases h⟩, H4.out⟩
            simp only [List.nil_append, List.cons_append]
            repeat (apply tameN_q rfl; (intro ρ W hC hN hr hD; (obtain ⟨hrc, hrg, hrf, hrs⟩ := hr); (simp [go_sem] at hD); go_simp; first | exact ⟨⟨hC, fun h => h, fun _ h => h⟩, rfl⟩ | exact ⟨hC, fun h => h, fun _ h => h⟩ | exact rfl); simp only [List.nil_append, List.cons_append])
            refine tameN_end 53 rfl rfl (fun ρ W' hC hr hF => ?_)
            obtain ⟨hrc, hrg, hrf, hrs⟩ := hr
            simp [go_sem] at hF
            obtain ⟨f37, f38, f39, f40, f41, f42, f43, f44, f45, f46, f47, f48, f49, f50, f51, fS, f52⟩ := hF
            apply frame_to
            · go_simp
              exact rfl
            have OJ4 := Lib.hid fS
            have GJ3 := Lib.hid (grown_tr GJ2.out hC.1)
            clear f37 f38 f39 f40 f41 f42 f43 f44 f45 f46 f47 f48 f49 f50 f51 fS f52 hrs hrc hrg hrf hC
            have hne : ¬ j = k := by have := HK.out; omega
            obtain ⟨b0, b1, b2, b3, bl⟩ := own_at63 OJ4.out (show (m0.set j y')[k]? = some y' by rw [List.getElem?_set, if_neg hne]; exact hmk)
            have df : ∀ k, W'.frozen? ⟨g, k, none⟩ = false := fun k => own_frozen OJ4.out k
            have OJ5 := Lib.hid (own_put4 (enc := encD) (fun _ => rfl) (x := x') rfl OJ4.out (by rw [List.length_set]; exact hml.symm) (show k < n from hkn))
            rw [HSW.out] at OJ5
            clear hmj hmk
            go_wp2
            go_roundg k
            case measure => have := HK.out; omega
            case rel => exact ⟨k, by have := HK.out; omega, by omega, rfl, OJ5.out, HST.out, grown_set (grown_set (grown_set (grown_set GJ3.out (p := ⟨g, _, none⟩) (.inl rfl) _) (p := ⟨g, _, none⟩) (.inl rfl) _) (p := ⟨g, _, none⟩) (.inl rfl) _) (p := ⟨g, _, none⟩) (.inl rfl) _⟩
          · have hcn : ¬ cmpI x'.number y'.number < 0 := by unfold cmpI; rw [if_neg hxy]; split <;> omega
            have hcd : decide (cmpI x'.number y'.number < 0) = false := decide_eq_false hcn
            have HFI := Lib.hid (show Own encD 63 4 wr base (.slice (some ⟨g, 0, none⟩) n c) (sortD l (i + 1) ++ T) by
              rw [HSS.out, ST.out, show stopD S x' j = j by rw [HK.out, stopD, HY.out]; simp only; rw [if_neg hxy]]
              exact OJ.out)
            go_wp2_with fail
            refine wp_region_tame (fun W => Ext wr W) (fun W W' => Ext W W') (by kernel_rfl) 53 rfl (by decide +kernel) (Ext.refl _).drew ?_
            repeat (apply tame_q rfl; (intro ρ W hC hr hD; (obtain ⟨hrc, hrg, hrf, hrs⟩ := hr); (simp [go_sem] at hD); go_simp; first | exact ⟨⟨hC, Ext.refl _⟩, rfl⟩ | exact ⟨⟨hC, RS.refl _⟩, rfl⟩ | exact rfl); simp only [List.nil_append, List.cons_append])
            apply tame_q rfl
            · intro ρ W hC hr hD
              obtain ⟨hrc, hrg, hrf, hrs⟩ := hr
              simp [go_sem] at hD
              go_simp
              refine (f93_any x' y' W).mono ?_
              rintro e w' ⟨rfl, hE⟩
              exact ⟨_, rfl, ⟨hC.trans hE, hE⟩, rfl⟩
            simp only [List.nil_append, List.cons_append]
            repeat (apply tame_q rfl; (intro ρ W hC hr hD; (obtain ⟨hrc, hrg, hrf, hrs⟩ := hr); (simp [go_sem] at hD); go_simp; first | exact ⟨⟨hC, Ext.refl _⟩, rfl⟩ | exact ⟨⟨hC, RS.refl _⟩, rfl⟩ | exact rfl); simp only [List.nil_append, List.cons_append])
            refine tame_end 53 rfl rfl (fun ρ W hC hr hF => ?_)
            obtain ⟨hrc, hrg, hrf, hrs⟩ := hr
            simp [go_sem] at hF
            apply frame_to
            · go_simp
              exact rfl
            have HFI := Lib.hid (HFI.out.ext hC)
            have GJ2 := Lib.hid (grown_ext GJ.out hC)
            clear hF hrs hrc hrg hrf x0 x1 x2 x3 y0 y1 y2 y3 hC
            go_wp2
            go_roundg (n - (i + 1))
            case measure => omega
            case rel => exact ⟨i + 1, by omega, by omega, by omega, by simp, by rw [HTT.out]; exact HFI.out, GJ2.out⟩
    · have hie : i = n := by omega
      subst hie
      have HF := Lib.hid (show sortD l i ++ l.drop i = sortD l i by rw [List.drop_eq_nil_of_le (by have := HN.out; omega), List.append_nil])
      go_wp2
      refine bodyPost_end (results_none rfl _ _ _) rfl ?_
      exact ⟨⟨_, rfl⟩, by rw [← HF.out]; exact OW.out, GW.out⟩

theorem f125_any (l : List Draw) (g n c base : Nat) (w : World) (hn : n = l.length) (hn0 : 0 < n) (hn20 : n < 20) (ho : Own encD 63 4 w base (.slice (some ⟨g, 0, none⟩) n c) l) :
    Calls Tryd.prog 125 #[.slice (some ⟨g, 0, none⟩) n c, .int .i64 (n : Int), .func (.func 93) #[] #[]] w fun e w' => (∃ v, e = .returned v) ∧ Own encD 63 4 w' base (.slice (some ⟨g, 0, none⟩) n c) (sortD l n) ∧ w.grownBy w' (some g) := by
  have HI := Lib.hid (f135_any l g n c base w hn hn0 (by omega) ho)
  have h1 : (n : Int) < 20 := by omega
  clear ho hn
  go_enter Tryd.func125, Tryd.ntmps125
  go_wp2
  go_loopg [7, 8] 1 (fun gg s7 s8 wr => gg = 1 ∧ s7 = .int .i64 0 ∧ s8 = .int .i64 20 ∧ wr = w)
  case atStart => exact ⟨rfl, rfl, rfl, rfl⟩
  case round =>
    obtain ⟨rfl, rfl, rfl, rfl⟩ := hrel
    go_wp2_with fail
    refine HI.out.mono ?_
    rintro e w2 ⟨⟨v, rfl⟩, ho, hg⟩
    have HO := Lib.hid ho; have HG := Lib.hid hg
    clear ho hg HI
    go_wp2
    go_loopg [6, 7, 8, 9] 1 (fun gg s6 s7 s8 _ wr => gg = 1 ∧ s6 = .int .i64 20 ∧ s7 = .int .i64 0 ∧ s8 = .int .i64 20 ∧ wr = w2)
    case atStart => exact ⟨rfl, rfl, rfl, rfl, rfl⟩
    case round =>
      obtain ⟨rfl, rfl, rfl, rfl, rfl⟩ := hrel
      go_wp2
      refine bodyPost_end (results_none rfl _ _ _) rfl ?_
      exact ⟨⟨_, rfl⟩, HO.out, HG.out⟩
theorem f92_any (l : List Draw) (g n c base : Nat) (w : World) (hn : n = l.length) (hn0 : 0 < n) (hn20 : n < 20) (ho : Own encD 63 4 w base (.slice (some ⟨g, 0, none⟩) n c) l) :
    Calls Tryd.prog 92 #[.slice (some ⟨g, 0, none⟩) n c, .func (.func 93) #[] #[]] w fun e w' => (∃ v, e = .returned v) ∧ Own encD 63 4 w' base (.slice (some ⟨g, 0, none⟩) n c) (sortD l n) ∧ w.grownBy w' (some g) := by
  have HI := Lib.hid (f125_any l g n c base w hn hn0 hn20 ho)
  clear ho hn
  go_enter Tryd.func92, Tryd.ntmps92
  go_wp2_with fail
  refine HI.out.mono ?_
  rintro e w2 ⟨⟨v, rfl⟩, ho, hg⟩
  have HO := Lib.hid ho; have HG := Lib.hid hg
  clear ho hg HI
  go_wp2
  refine bodyPost_end (results_none rfl _ _ _) rfl ?_
  exact ⟨⟨_, rfl⟩, HO.out, HG.out⟩
theorem own_at65 {W : World} {base g n c k : Nat} {m : List Weigh} {y : Weigh} (h : Own encW 65 4 W base (.slice (some ⟨g, 0, none⟩) n c) m) (hy : m[k]? = some y) :
    W.cell? ⟨g, k * 4, none⟩ = some (.int .i64 y.number) ∧ W.cell? ⟨g, k * 4 + 1, none⟩ = some (.int .i64 y.pounds) ∧ W.cell? ⟨g, k * 4 + 2, none⟩ = some (.int .i64 y.damp.lo) ∧ W.cell? ⟨g, k * 4 + 3, none⟩ = some (.int .i64 y.damp.hi) ∧ g < W.heap.size := by
  have hsl : SlW W (.slice (some ⟨g, 0, none⟩) n c) m := h.sl (fun _ => rfl)
  have hk : k < n := by
    have h1 := (List.getElem?_eq_some_iff.1 hy).1
    obtain ⟨_, _, e, _⟩ := hsl
    injection e with _ e _
    omega
  obtain ⟨bb, off, y', e1, hy', hb, hc⟩ := hsl.at_ hk
  injection e1 with e1
  injection e1 with e1 e2 _
  subst e1 e2
  rw [hy] at hy'
  injection hy' with hy'
  subst hy'
  obtain ⟨c0, c1, c2, c3⟩ := SlW.cells hc (Ext.refl _)
  simp only [Nat.zero_add] at c0 c1 c2 c3
  exact ⟨c0, c1, c2, c3, hb⟩
theorem f96_any (x y : Weigh) (w : World) : Calls Tryd.prog 96 #[valW x, valW y] w fun e w' => e = .returned (.int .i64 (cmpI x.number y.number)) ∧ Ext w w' := by
  dsimp only [valW]
  go_enter Tryd.func96, Tryd.ntmps96
  go_wp2_with fail
  refine (compare_any x.number y.number _).mono ?_
  rintro e w1 ⟨rfl, hE1⟩
  have HE1 := Lib.hid ((((Ext.al _ _).alloc _ : Ext w _)).trans hE1); clear hE1
  go_wp2
  go_ret
  exact ⟨rfl, HE1.out⟩

/-- Where a draw comes to stand. -/
def stopW (S : List Weigh) (x : Weigh) : Nat → Nat
  | 0 => 0
  | j + 1 => match S[j]? with
    | some y => if x.number < y.number then stopW S x j else j + 1
    | none => j + 1
def putW (S : List Weigh) (x : Weigh) (j : Nat) : List Weigh := S.take j ++ x :: S.drop j
def sortW (l : List Weigh) : Nat → List Weigh
  | 0 => []
  | k + 1 => match l[k]? with
    | some x => putW (sortW l k) x (stopW (sortW l k) x k)
    | none => sortW l k
theorem stopW_le (S : List Weigh) (x : Weigh) : ∀ j, stopW S x j ≤ j
  | 0 => Nat.le_refl _
  | j + 1 => by
    unfold stopW
    split
    · split
      · exact Nat.le_succ_of_le (stopW_le S x j)
      · exact Nat.le_refl _
    · exact Nat.le_refl _
theorem putW_len (S : List Weigh) (x : Weigh) {j : Nat} (hj : j ≤ S.length) : (putW S x j).length = S.length + 1 := by unfold putW; simp; omega
theorem sortW_len (l : List Weigh) : ∀ k, k ≤ l.length → (sortW l k).length = k
  | 0, _ => rfl
  | k + 1, h => by
    have ih := sortW_len l k (by omega)
    unfold sortW
    rw [List.getElem?_eq_getElem (show k < l.length by omega)]
    simp only
    rw [putW_len _ _ (by rw [ih]; exact stopW_le _ _ _), ih]
theorem putW_at (S T : List Weigh) (x : Weigh) {j : Nat} (hj : j ≤ S.length) : (putW S x j ++ T)[j]? = some x := by
  unfold putW
  rw [List.append_assoc, List.getElem?_append_right (by simp; omega)]
  simp [List.length_take, Nat.min_eq_left hj]
theorem putW_before (S T : List Weigh) (x : Weigh) {j : Nat} (hj : j < S.length) : (putW S x (j + 1) ++ T)[j]? = S[j]? := by
  unfold putW
  rw [List.append_assoc, List.getElem?_append_left (by simp; omega), List.getElem?_take, if_pos (by omega)]
theorem putW_swap (S T : List Weigh) (x y : Weigh) {j : Nat} (hy : S[j]? = some y) : ((putW S x (j + 1) ++ T).set (j + 1) y).set j x = putW S x j ++ T := by
  have hj : j < S.length := (List.getElem?_eq_some_iff.1 hy).1
  have h1 : S.take (j + 1) = S.take j ++ [y] := by rw [List.take_add_one, hy]; rfl
  have h2 : S.drop j = y :: S.drop (j + 1) := drop_at hy
  unfold putW
  rw [h1, h2]
  have hl : (S.take j).length = j := by simp; omega
  rw [show List.take j S ++ [y] ++ x :: List.drop (j + 1) S ++ T = List.take j S ++ (y :: x :: (List.drop (j + 1) S ++ T)) by simp]
  rw [List.set_append_right (j + 1) y (by omega), List.set_append_right j x (by omega), hl]
  rw [show j + 1 - j = 1 by omega, Nat.sub_self]
  simp
theorem putW_end (S T : List Weigh) (x : Weigh) : putW S x S.length ++ T = S ++ (x :: T) := by unfold putW; simp

set_option maxHeartbeats 2000000 in
theorem f137_any (l : List Weigh) (g n c base : Nat) (w : World) (hn : n = l.length) (hn0 : 0 < n) (hn20 : n ≤ 20) (ho : Own encW 65 4 w base (.slice (some ⟨g, 0, none⟩) n c) l) :
    Calls Tryd.prog 137 #[.slice (some ⟨g, 0, none⟩) n c, .int .i64 0, .int .i64 (n : Int), .func (.func 96) #[] #[]] w fun e w' => (∃ v, e = .returned v) ∧ Own encW 65 4 w' base (.slice (some ⟨g, 0, none⟩) n c) (sortW l n) ∧ w.grownBy w' (some g) := by
  have HO := Lib.hid ho
  have HN := Lib.hid hn
  have eg : ∀ args w, (callFunc 96 args).run Tryd.prog w = .ok (.enter 96 args) w := enters_of Tryd.func96 (by kernel_rfl) rfl
  clear ho hn
  go_enter Tryd.func137, Tryd.ntmps137
  go_wp2
  go_loopg [8, 9] n (fun gg s8 _ wr => ∃ i : Nat, 1 ≤ i ∧ i ≤ n ∧ n - i ≤ gg ∧ s8 = .int .i64 (i : Int) ∧ Aside (Own encW 65 4 wr base (.slice (some ⟨g, 0, none⟩) n c) (sortW l i ++ l.drop i)) ∧ Aside (w.grownBy wr (some g)))
  case atStart => exact ⟨1, by omega, by omega, by omega, rfl, by
    have h0 : 0 < l.length := by have := HN.out; omega
    have : sortW l 1 ++ l.drop 1 = l := by
      match l, h0 with
      | x :: r, _ => simp [sortW, stopW, putW]
    rw [this]; exact HO.out, World.grownBy.refl _ _⟩
  case round =>
    obtain ⟨i, hi1, hin, hgg, rfl, OW, GW⟩ := hrel
    by_cases hiN : i < n
    · have hiz : (i : Int) < (n : Int) := by omega
      obtain ⟨x, hx⟩ : ∃ x, l[i]? = some x := ⟨_, List.getElem?_eq_getElem (by have := HN.out; omega)⟩
      have HX := Lib.hid hx
      have HSL := Lib.hid (sortW_len l i (by have := HN.out; omega))
      have HSS := Lib.hid (show sortW l (i + 1) = putW (sortW l i) x (stopW (sortW l i) x i) by rw [sortW, hx])
      have HDR := Lib.hid (show sortW l i ++ l.drop i = putW (sortW l i) x i ++ l.drop (i + 1) by
        rw [drop_at hx]
        have := putW_end (sortW l i) (l.drop (i + 1)) x
        rw [HSL.out] at this
        exact this.symm)
      rw [HDR.out] at OW
      clear hx
      generalize sortW l i = S at *
      generalize hTT : l.drop (i + 1) = T at *
      have HTT := Lib.hid hTT; clear hTT
      obtain ⟨wo, hwo⟩ : ∃ wo : World, wo = wr := ⟨_, rfl⟩
      subst hwo
      go_wp2_with fail
      go_loopg [9] i (fun gg s9 wr => ∃ j : Nat, j ≤ i ∧ j ≤ gg ∧ s9 = .int .i64 (j : Int) ∧ Aside (Own encW 65 4 wr base (.slice (some ⟨g, 0, none⟩) n c) (putW S x j ++ T)) ∧ Aside (stopW S x i = stopW S x j) ∧ Aside (w.grownBy wr (some g)))
      case atStart => exact ⟨i, by omega, by omega, rfl, OW.out, rfl, GW.out⟩
      case round =>
        obtain ⟨j, hji, hgj, rfl, OJ, ST, GJ⟩ := hrel
        by_cases hj0 : j = 0
        · subst hj0
          have HFI := Lib.hid (show Own encW 65 4 wr base (.slice (some ⟨g, 0, none⟩) n c) (sortW l (i + 1) ++ T) by rw [HSS.out, ST.out]; exact OJ.out)
          go_wp2_with fail
          refine wp_region_tame (fun W => Ext wr W) (fun W W' => Ext W W') (by kernel_rfl) 53 rfl (by decide +kernel) (Ext.refl _).drew ?_
          repeat (apply tame_q rfl; (intro ρ W hC hr hD; (obtain ⟨hrc, hrg, hrf, hrs⟩ := hr); (simp [go_sem] at hD); go_simp; first | exact ⟨⟨hC, Ext.refl _⟩, rfl⟩ | exact ⟨⟨hC, RS.refl _⟩, rfl⟩ | exact rfl); simp only [List.nil_append, List.cons_append])
          refine tame_end 53 rfl rfl (fun ρ W hC hr hF => ?_)
          obtain ⟨hrc, hrg, hrf, hrs⟩ := hr
          simp [go_sem] at hF
          apply frame_to
          · go_simp
            exact rfl
          have HFI := Lib.hid (HFI.out.ext hC)
          have GJ2 := Lib.hid (grown_ext GJ.out hC)
          clear hF hrs hrc hrg hrf hC
          go_wp2
          go_roundg (n - (i + 1))
          case measure => omega
          case rel => exact ⟨i + 1, by omega, by omega, by omega, by simp, by rw [HTT.out]; exact HFI.out, GJ2.out⟩
        · obtain ⟨k, hk⟩ : ∃ k, j = k + 1 := ⟨j - 1, by omega⟩
          have HK := Lib.hid hk
          have hkn : k < n := by omega
          have hjn : j < n := by omega
          have hjS : j ≤ S.length := by have := HSL.out; omega
          obtain ⟨y, hy⟩ : ∃ y, S[k]? = some y := ⟨_, List.getElem?_eq_getElem (by omega)⟩
          have HY := Lib.hid hy
          have hsl : SlW wr (.slice (some ⟨g, 0, none⟩) n c) (putW S x j ++ T) := OJ.out.sl (fun _ => rfl)
          obtain ⟨bb, off, x', e1, hx', -, hxc⟩ := hsl.at_ hjn
          injection e1 with e1
          injection e1 with e1 e2 _
          subst e1 e2
          obtain rfl : x' = x := by rw [putW_at S T x hjS] at hx'; injection hx' with h; exact h.symm
          obtain ⟨bb, off, y', e1, hy', -, hyc⟩ := hsl.at_ hkn
          injection e1 with e1
          injection e1 with e1 e2 _
          subst e1 e2
          obtain rfl : y' = y := by rw [hk, putW_before S T x' (by omega), hy] at hy'; injection hy' with h; exact h.symm
          have cx := fun W (h : Ext wr W) => SlW.cells hxc h
          have cy := fun W (h : Ext wr W) => SlW.cells hyc h
          simp only [Nat.zero_add] at cx cy
          have x0 := fun W (h : Ext wr W) => (cx W h).1
          have x1 := fun W (h : Ext wr W) => (cx W h).2.1
          have x2 := fun W (h : Ext wr W) => (cx W h).2.2.1
          have x3 := fun W (h : Ext wr W) => (cx W h).2.2.2
          have y0 := fun W (h : Ext wr W) => (cy W h).1
          have y1 := fun W (h : Ext wr W) => (cy W h).2.1
          have y2 := fun W (h : Ext wr W) => (cy W h).2.2.1
          have y3 := fun W (h : Ext wr W) => (cy W h).2.2.2
          have hjz : (0 : Int) < (j : Int) := by omega
          have hjp : 0 < j := by omega
          have hjz2 : (j : Int) < (n : Int) := by omega
          have hjs : (j : Int) - 1 = (k : Int) := by omega
          have hkz2 : (k : Int) < (n : Int) := by omega
          clear hk hx' hy' hsl hy cx cy hxc hyc
          have hwk := wrap_nat (k := k) (by omega)
          have hmj : (putW S x' j ++ T)[j]? = some x' := putW_at S T x' hjS
          have hmk : (putW S x' j ++ T)[k]? = some y' := by rw [HK.out, putW_before S T x' (by have := HK.out; omega)]; exact HY.out
          have hml : (putW S x' j ++ T).length = n := by have := OJ.out.sl (fun _ => rfl) (enc := encW); obtain ⟨_, _, e, _⟩ := this; injection e with _ e _; exact e.symm
          by_cases hxy : x'.number < y'.number
          · have hcv : cmpI x'.number y'.number = -1 := by unfold cmpI; rw [if_pos hxy]
            have HST := Lib.hid (show stopW S x' i = stopW S x' k by rw [ST.out, HK.out, stopW, HY.out]; simp only; rw [if_pos hxy])
            have HSW := Lib.hid (show ((putW S x' j ++ T).set j y').set k x' = putW S x' k ++ T by rw [HK.out]; exact putW_swap S T x' y' HY.out)
            go_wp2_with fail
            refine wp_region_tame (fun W => Ext wr W) (fun W W' => Ext W W') (by kernel_rfl) 53 rfl (by decide +kernel) (Ext.refl _).drew ?_
            repeat (apply tame_q rfl; (intro ρ W hC hr hD; (obtain ⟨hrc, hrg, hrf, hrs⟩ := hr); (simp [go_sem] at hD); go_simp; first | exact ⟨⟨hC, Ext.refl _⟩, rfl⟩ | exact ⟨⟨hC, RS.refl _⟩, rfl⟩ | exact rfl); simp only [List.nil_append, List.cons_append])
            apply tame_q rfl
            · intro ρ W hC hr hD
              obtain ⟨hrc, hrg, hrf, hrs⟩ := hr
              simp [go_sem] at hD
              go_simp
              refine (f96_any x' y' W).mono ?_
              rintro e w' ⟨rfl, hE⟩
              rw [hcv]
              exact ⟨_, rfl, ⟨hC.trans hE, hE⟩, rfl⟩
            simp only [List.nil_append, List.cons_append]
            repeat (apply tame_q rfl; (intro ρ W hC hr hD; (obtain ⟨hrc, hrg, hrf, hrs⟩ := hr); (simp [go_sem] at hD); go_simp; first | exact ⟨⟨hC, Ext.refl _⟩, rfl⟩ | exact ⟨⟨hC, RS.refl _⟩, rfl⟩ | exact rfl); simp only [List.nil_append, List.cons_append])
            refine tame_end 53 rfl rfl (fun ρ W hC hr hF => ?_)
            obtain ⟨hrc, hrg, hrf, hrs⟩ := hr
            simp [go_sem] at hF
            apply frame_to
            · go_simp
              exact rfl
            have OJ2 := Lib.hid (OJ.out.ext hC)
            have GJ2 := Lib.hid (grown_ext GJ.out hC)
            clear hF hrs hrc hrg hrf x0 x1 x2 x3 y0 y1 y2 y3 hC hcv
            generalize hm0 : putW S x' j ++ T = m0 at *
            go_wp2_with fail
            refine wp_region_tameN_cut (fun W' => W.grownBy W' (some g) ∧ ∃ m, Own encW 65 4 W' base (.slice (some ⟨g, 0, none⟩) n c) m ∧ m.length = n) (fun A B => Own encW 65 4 A base (.slice (some ⟨g, 0, none⟩) n c) (m0.set j y') → Own encW 65 4 B base (.slice (some ⟨g, 0, none⟩) n c) (m0.set j y')) (fun W' => Own encW 65 4 W' base (.slice (some ⟨g, 0, none⟩) n c) m0) 15 (by kernel_rfl) 53 rfl _ rfl (by decide +kernel) (by decide +kernel) (by decide +kernel) rfl ⟨⟨rfl, rfl, rfl, Nat.le_refl _, fun _ _ _ => rfl⟩, m0, OJ2.out, hml⟩ OJ2.out ?_
            simp only [List.dropLast]
            repeat (apply tameN_q rfl; (intro ρ W hC hN hr hD; (obtain ⟨hrc, hrg, hrf, hrs⟩ := hr); (simp [go_sem] at hD); go_simp; first | exact ⟨⟨hC, fun h => h, fun _ h => h⟩, rfl⟩ | exact ⟨hC, fun h => h, fun _ h => h⟩ | exact rfl); simp only [List.nil_append, List.cons_append])
            apply tameN_q rfl
            · intro ρ W' hC hN hr hD
              obtain ⟨hrc, hrg, hrf, hrs⟩ := hr
              simp [go_sem] at hD
              obtain ⟨b0, b1, b2, b3, bl⟩ := own_at65 (hN rfl) hmk
              go_simp
              first | exact ⟨⟨hC, fun h => h, fun _ h => h⟩, rfl⟩ | exact ⟨hC, fun h => h, fun _ h => h⟩
            simp only [List.nil_append, List.cons_append]
            repeat (apply tameN_q rfl; (intro ρ W hC hN hr hD; (obtain ⟨hrc, hrg, hrf, hrs⟩ := hr); (simp [go_sem] at hD); go_simp; first | exact ⟨⟨hC, fun h => h, fun _ h => h⟩, rfl⟩ | exact ⟨hC, fun h => h, fun _ h => h⟩ | exact rfl); simp only [List.nil_append, List.cons_append])
            apply tameN_q rfl
            · intro ρ W' hC hN hr hD
              obtain ⟨hrc, hrg, hrf, hrs⟩ := hr
              simp [go_sem] at hD
              obtain ⟨b0, b1, b2, b3, bl⟩ := own_at65 (hN rfl) hmj
              go_simp
              first | exact ⟨⟨hC, fun h => h, fun _ h => h⟩, rfl⟩ | exact ⟨hC, fun h => h, fun _ h => h⟩
            simp only [List.nil_append, List.cons_append]
            repeat (apply tameN_q rfl; (intro ρ W hC hN hr hD; (obtain ⟨hrc, hrg, hrf, hrs⟩ := hr); (simp [go_sem] at hD); go_simp; first | exact ⟨⟨hC, fun h => h, fun _ h => h⟩, rfl⟩ | exact ⟨hC, fun h => h, fun _ h => h⟩ | exact rfl); simp only [List.nil_append, List.cons_append])
            apply tameN_n (fun _ W' => Own encW 65 4 W' base (.slice (some ⟨g, 0, none⟩) n c) (m0.set j y')) (fun _ A B _ hR h => hR h)
            · intro ρ W' hC hN hr hD
              obtain ⟨hrc, hrg, hrf, hrs⟩ := hr
              simp [go_sem] at hD
              have h0 := hN rfl
              obtain ⟨a0, a1, a2, a3, al⟩ := own_at65 h0 hmj
              have df : ∀ k, W'.frozen? ⟨g, k, none⟩ = false := fun k => own_frozen h0 k
              have h4 := own_put4 (enc := encW) (fun _ => rfl) (x := y') rfl h0 hml.symm (show j < n from hjn)
              have H4 := Lib.hid h4; have HC := Lib.hid hC.1
              clear h4 h0 hN hC
              go_simp
              exact ⟨⟨⟨grown_set (grown_set (grown_set (grown_set HC.out (p := ⟨g, _, none⟩) (.inl rfl) _) (p := ⟨g, _, none⟩) (.inl rfl) _) (p := ⟨g, _, none⟩) (.inl rfl) _) (p := ⟨g, _, none⟩) (.inl rfl) _, _, H4.out, by rw [List.length_set]; exact hml⟩, fun _ => H4.out, fun h => by cases h⟩, H4.out⟩
            simp only [List.nil_append, List.cons_append]
            repeat (apply tameN_q rfl; (intro ρ W hC hN hr hD; (obtain ⟨hrc, hrg, hrf, hrs⟩ := hr); (simp [go_sem] at hD); go_simp; first | exact ⟨⟨hC, fun h => h, fun _ h => h⟩, rfl⟩ | exact ⟨hC, fun h => h, fun _ h => h⟩ | exact rfl); simp only [List.nil_append, List.cons_append])
            refine tameN_end 53 rfl rfl (fun ρ W' hC hr hF => ?_)
            obtain ⟨hrc, hrg, hrf, hrs⟩ := hr
            simp [go_sem] at hF
            obtain ⟨f37, f38, f39, f40, f41, f42, f43, f44, f45, f46, f47, f48, f49, f50, f51, fS, f52⟩ := hF
            apply frame_to
            · go_simp
              exact rfl
            have OJ4 := Lib.hid fS
            have GJ3 := Lib.hid (grown_tr GJ2.out hC.1)
            clear f37 f38 f39 f40 f41 f42 f43 f44 f45 f46 f47 f48 f49 f50 f51 fS f52 hrs hrc hrg hrf hC
            have hne : ¬ j = k := by have := HK.out; omega
            obtain ⟨b0, b1, b2, b3, bl⟩ := own_at65 OJ4.out (show (m0.set j y')[k]? = some y' by rw [List.getElem?_set, if_neg hne]; exact hmk)
            have df : ∀ k, W'.frozen? ⟨g, k, none⟩ = false := fun k => own_frozen OJ4.out k
            have OJ5 := Lib.hid (own_put4 (enc := encW) (fun _ => rfl) (x := x') rfl OJ4.out (by rw [List.length_set]; exact hml.symm) (show k < n from hkn))
            rw [HSW.out] at OJ5
            clear hmj hmk
            go_wp2
            go_roundg k
            case measure => have := HK.out; omega
            case rel => exact ⟨k, by have := HK.out; omega, by omega, rfl, OJ5.out, HST.out, grown_set (grown_set (grown_set (grown_set GJ3.out (p := ⟨g, _, none⟩) (.inl rfl) _) (p := ⟨g, _, none⟩) (.inl rfl) _) (p := ⟨g, _, none⟩) (.inl rfl) _) (p := ⟨g, _, none⟩) (.inl rfl) _⟩
          · have hcn : ¬ cmpI x'.number y'.number < 0 := by unfold cmpI; rw [if_neg hxy]; split <;> omega
            have hcd : decide (cmpI x'.number y'.number < 0) = false := decide_eq_false hcn
            have HFI := Lib.hid (show Own encW 65 4 wr base (.slice (some ⟨g, 0, none⟩) n c) (sortW l (i + 1) ++ T) by
              rw [HSS.out, ST.out, show stopW S x' j = j by rw [HK.out, stopW, HY.out]; simp only; rw [if_neg hxy]]
              exact OJ.out)
            go_wp2_with fail
            refine wp_region_tame (fun W => Ext wr W) (fun W W' => Ext W W') (by kernel_rfl) 53 rfl (by decide +kernel) (Ext.refl _).drew ?_
            repeat (apply tame_q rfl; (intro ρ W hC hr hD; (obtain ⟨hrc, hrg, hrf, hrs⟩ := hr); (simp [go_sem] at hD); go_simp; first | exact ⟨⟨hC, Ext.refl _⟩, rfl⟩ | exact ⟨⟨hC, RS.refl _⟩, rfl⟩ | exact rfl); simp only [List.nil_append, List.cons_append])
            apply tame_q rfl
            · intro ρ W hC hr hD
              obtain ⟨hrc, hrg, hrf, hrs⟩ := hr
              simp [go_sem] at hD
              go_simp
              refine (f96_any x' y' W).mono ?_
              rintro e w' ⟨rfl, hE⟩
              exact ⟨_, rfl, ⟨hC.trans hE, hE⟩, rfl⟩
            simp only [List.nil_append, List.cons_append]
            repeat (apply tame_q rfl; (intro ρ W hC hr hD; (obtain ⟨hrc, hrg, hrf, hrs⟩ := hr); (simp [go_sem] at hD); go_simp; first | exact ⟨⟨hC, Ext.refl _⟩, rfl⟩ | exact ⟨⟨hC, RS.refl _⟩, rfl⟩ | exact rfl); simp only [List.nil_append, List.cons_append])
            refine tame_end 53 rfl rfl (fun ρ W hC hr hF => ?_)
            obtain ⟨hrc, hrg, hrf, hrs⟩ := hr
            simp [go_sem] at hF
            apply frame_to
            · go_simp
              exact rfl
            have HFI := Lib.hid (HFI.out.ext hC)
            have GJ2 := Lib.hid (grown_ext GJ.out hC)
            clear hF hrs hrc hrg hrf x0 x1 x2 x3 y0 y1 y2 y3 hC
            go_wp2
            go_roundg (n - (i + 1))
            case measure => omega
            case rel => exact ⟨i + 1, by omega, by omega, by omega, by simp, by rw [HTT.out]; exact HFI.out, GJ2.out⟩
    · have hie : i = n := by omega
      subst hie
      have HF := Lib.hid (show sortW l i ++ l.drop i = sortW l i by rw [List.drop_eq_nil_of_le (by have := HN.out; omega), List.append_nil])
      go_wp2
      refine bodyPost_end (results_none rfl _ _ _) rfl ?_
      exact ⟨⟨_, rfl⟩, by rw [← HF.out]; exact OW.out, GW.out⟩

theorem f127_any (l : List Weigh) (g n c base : Nat) (w : World) (hn : n = l.length) (hn0 : 0 < n) (hn20 : n < 20) (ho : Own encW 65 4 w base (.slice (some ⟨g, 0, none⟩) n c) l) :
    Calls Tryd.prog 127 #[.slice (some ⟨g, 0, none⟩) n c, .int .i64 (n : Int), .func (.func 96) #[] #[]] w fun e w' => (∃ v, e = .returned v) ∧ Own encW 65 4 w' base (.slice (some ⟨g, 0, none⟩) n c) (sortW l n) ∧ w.grownBy w' (some g) := by
  have HI := Lib.hid (f137_any l g n c base w hn hn0 (by omega) ho)
  have h1 : (n : Int) < 20 := by omega
  clear ho hn
  go_enter Tryd.func127, Tryd.ntmps127
  go_wp2
  go_loopg [7, 8] 1 (fun gg s7 s8 wr => gg = 1 ∧ s7 = .int .i64 0 ∧ s8 = .int .i64 20 ∧ wr = w)
  case atStart => exact ⟨rfl, rfl, rfl, rfl⟩
  case round =>
    obtain ⟨rfl, rfl, rfl, rfl⟩ := hrel
    go_wp2_with fail
    refine HI.out.mono ?_
    rintro e w2 ⟨⟨v, rfl⟩, ho, hg⟩
    have HO := Lib.hid ho; have HG := Lib.hid hg
    clear ho hg HI
    go_wp2
    go_loopg [6, 7, 8, 9] 1 (fun gg s6 s7 s8 _ wr => gg = 1 ∧ s6 = .int .i64 20 ∧ s7 = .int .i64 0 ∧ s8 = .int .i64 20 ∧ wr = w2)
    case atStart => exact ⟨rfl, rfl, rfl, rfl, rfl⟩
    case round =>
      obtain ⟨rfl, rfl, rfl, rfl, rfl⟩ := hrel
      go_wp2
      refine bodyPost_end (results_none rfl _ _ _) rfl ?_
      exact ⟨⟨_, rfl⟩, HO.out, HG.out⟩
theorem f95_any (l : List Weigh) (g n c base : Nat) (w : World) (hn : n = l.length) (hn0 : 0 < n) (hn20 : n < 20) (ho : Own encW 65 4 w base (.slice (some ⟨g, 0, none⟩) n c) l) :
    Calls Tryd.prog 95 #[.slice (some ⟨g, 0, none⟩) n c, .func (.func 96) #[] #[]] w fun e w' => (∃ v, e = .returned v) ∧ Own encW 65 4 w' base (.slice (some ⟨g, 0, none⟩) n c) (sortW l n) ∧ w.grownBy w' (some g) := by
  have HI := Lib.hid (f127_any l g n c base w hn hn0 hn20 ho)
  clear ho hn
  go_enter Tryd.func95, Tryd.ntmps95
  go_wp2_with fail
  refine HI.out.mono ?_
  rintro e w2 ⟨⟨v, rfl⟩, ho, hg⟩
  have HO := Lib.hid ho; have HG := Lib.hid hg
  clear ho hg HI
  go_wp2
  refine bodyPost_end (results_none rfl _ _ _) rfl ?_
  exact ⟨⟨_, rfl⟩, HO.out, HG.out⟩
end Go.Proofs.YtcoiahjehlplfaaDoor
/- core.without: a bale without some draws and weighings. -/
namespace Go.Proofs.YtcoiahjehlplfaaDoor
open Go.RowKit Go.Shelf Go.Lib
set_option maxRecDepth 100000
set_option linter.unusedSimpArgs false

theorem contains_any (l : List Int) (v : Value) (x : Int) (w : World) (hs : SlI w v l) :
    Calls Tryd.prog 118 #[v, .int .i64 x] w fun e w' => e = .returned (.bool (l.any fun y => decide (x = y))) ∧ Ext w w' := by
  have HS := Lib.hid hs
  obtain ⟨A, n, c, rfl, hn, hlc, hcm⟩ := hs.form
  have HI := Lib.hid (f59_any l x _ w HS.out)
  clear hs
  go_enter Tryd.func118, Tryd.ntmps118
  go_wp2_with fail
  refine HI.out.mono ?_
  rintro e w1 ⟨rfl, hE⟩
  have HE := Lib.hid hE; clear hE
  go_wp2
  go_ret
  exact ⟨ret_bool (idxF_any _ l), HE.out⟩

theorem f117_any (l : List Int) (A : Option Addr) (n c bl : Nat) (x : Draw) (w : World) (hb : w.cell? ⟨bl, 0, none⟩ = some (.slice A n c)) (hs : SlI w (.slice A n c) l) :
    Calls Tryd.prog 117 #[valD x, .pointer (some ⟨bl, 0, none⟩)] w fun e w' => e = .returned (.bool (l.any fun y => decide (x.number = y))) ∧ Ext w w' := by
  have HS := Lib.hid hs
  have hlt := (is_cells hb).1
  clear hs
  dsimp only [valD]
  go_enter Tryd.func117, Tryd.ntmps117
  go_wp2_with fail
  refine (contains_any l _ x.number _ (HS.out.ext (Ext.al _ _))).mono ?_
  rintro e w1 ⟨rfl, hE⟩
  have HE := Lib.hid ((Ext.al _ _).trans hE); clear hE
  go_wp2
  go_ret
  exact ⟨rfl, HE.out⟩
theorem f120_any (l : List Int) (A : Option Addr) (n c bl : Nat) (x : Weigh) (w : World) (hb : w.cell? ⟨bl, 0, none⟩ = some (.slice A n c)) (hs : SlI w (.slice A n c) l) :
    Calls Tryd.prog 120 #[valW x, .pointer (some ⟨bl, 0, none⟩)] w fun e w' => e = .returned (.bool (l.any fun y => decide (x.number = y))) ∧ Ext w w' := by
  have HS := Lib.hid hs
  have hlt := (is_cells hb).1
  clear hs
  dsimp only [valW]
  go_enter Tryd.func120, Tryd.ntmps120
  go_wp2_with fail
  refine (contains_any l _ x.number _ (HS.out.ext (Ext.al _ _))).mono ?_
  rintro e w1 ⟨rfl, hE⟩
  have HE := Lib.hid ((Ext.al _ _).trans hE); clear hE
  go_wp2
  go_ret
  exact ⟨rfl, HE.out⟩

theorem own_heap {α : Type} {enc : α → List Value} {sz base : Nat} {e : TypeId} {w : World} {v : Value} {l : List α} (h : Own enc e sz w base v l) : ∀ g, v.ownBlock = some g → ∃ cur, w.heap[g]? = some (.cells cur e (0, 0)) := by
  intro g hg
  rcases h.2 with ⟨rfl, _⟩ | ⟨g', cap, cur, rfl, hb, hh, _⟩
  · cases hg
  · simp [Value.ownBlock] at hg
    subst hg
    exact ⟨cur, hh⟩
theorem own_apart {α β : Type} {enc : α → List Value} {enc' : β → List Value} {sz sz' base base' : Nat} {e e' : TypeId} {w w' : World} {v v' : Value} {l : List α} {l' : List β} (h : Own enc e sz w base v l) (h' : Own enc' e' sz' w base' v' l') (hne : e ≠ e') (hg : w.grownBy w' v'.ownBlock) : Own enc e sz w' base v l := by
  refine World.ownsRow.kept h hg ?_
  cases hv : v.ownBlock with
  | none => exact .inl rfl
  | some g =>
    refine .inr fun e1 => ?_
    obtain ⟨cur, h1⟩ := own_heap h g hv
    obtain ⟨cur', h2⟩ := own_heap h' g e1.symm
    rw [h1] at h2
    injection h2 with h2
    injection h2 with _ h2 _
    exact hne h2
theorem own_below {α : Type} {enc : α → List Value} {sz base : Nat} {e : TypeId} {w w' : World} {v : Value} {l : List α} (h : Own enc e sz w base v l) (hb : base ≤ w.heap.size) (hg : w.grownBy w' v.ownBlock) : Below base w w' :=
  (Below.refl base w).grown hg hb (fun k hk => (World.ownsRow.lt h k hk).1)
theorem own_set {α : Type} {enc : α → List Value} {sz base g i : Nat} {e : TypeId} {w : World} {v u : Value} {l : List α} (h : Own enc e sz w base v l) (hg : g < base) : Own enc e sz (w.setCell ⟨g, i, none⟩ u) base v l := h.far hg u
def withB (b : Bale) (l k : List Int) : Bale := ⟨b.id, b.layers, b.dry, b.draws.filter fun x => !(l.any fun y => decide (x.number = y)), b.weighs.filter fun x => !(k.any fun y => decide (x.number = y))⟩

set_option maxHeartbeats 2000000 in
theorem without_any (b : Bale) (l k : List Int) (dv wv lv kv : Value) (w : World) (hd : SlD w dv b.draws) (hw : SlW w wv b.weighs) (hl : SlI w lv l) (hk : SlI w kv k) (hld : b.draws.length ≤ 1000) (hlw : b.weighs.length ≤ 1000) :
    Calls Tryd.prog 86 #[valB b dv wv, lv, kv] w fun e w' => (∃ v, e = .returned v ∧ TwinV (withB b l k) w.heap.size v w') ∧ Ext w w' := by
  have HD := Lib.hid hd; have HW := Lib.hid hw; have HL := Lib.hid hl; have HK := Lib.hid hk
  obtain ⟨A, n, cp, rfl, hn, hlc, hcm⟩ := hd.form
  obtain ⟨A2, n2, cp2, rfl, hn2, hlc2, hcm2⟩ := hw.form
  obtain ⟨A3, n3, cp3, rfl, hn3, hlc3, hcm3⟩ := hl.form
  obtain ⟨A4, n4, cp4, rfl, hn4, hlc4, hcm4⟩ := hk.form
  clear hd hw hl hk
  go_enter Tryd.func86, Tryd.ntmps86
  go_wp2_with fail
  generalize hw4 : ((((w.alloc (.cells #[.int .i64 b.id, .int .i64 b.layers, .int .i64 b.dry.lo, .int .i64 b.dry.hi, .slice A n cp, .slice A2 n2 cp2] 27)).alloc (.cells #[.slice A3 n3 cp3] 56)).alloc (.cells #[.slice A4 n4 cp4] 56)).alloc (.cells #[.int .i64 0, .int .i64 0, .int .i64 0, .int .i64 0, .slice none 0 0, .slice none 0 0] 27)) = w4
  have HE4 := Lib.hid (show Ext w w4 from hw4 ▸ (((Ext.al _ _).alloc _).alloc _).alloc _)
  have hz4 : w4.heap.size = w.heap.size + 4 := by rw [← hw4]; simp
  have HZ4 := Lib.hid hz4
  have HB0 := Lib.hid (show Blk w4 w.heap.size 27 #[.int .i64 b.id, .int .i64 b.layers, .int .i64 b.dry.lo, .int .i64 b.dry.hi, .slice A n cp, .slice A2 n2 cp2] from hw4 ▸ (((Blk.new _ _ _).alloc _).alloc _).alloc _)
  have HB1 := Lib.hid (show Blk w4 (w.heap.size + 1) 56 #[.slice A3 n3 cp3] from hw4 ▸ ((Blk.at_ (by simp)).alloc _).alloc _)
  have HB2 := Lib.hid (show Blk w4 (w.heap.size + 1 + 1) 56 #[.slice A4 n4 cp4] from hw4 ▸ (Blk.at_ (by simp)).alloc _)
  have HB3 := Lib.hid (show Blk w4 (w.heap.size + 1 + 1 + 1) 27 #[.int .i64 0, .int .i64 0, .int .i64 0, .int .i64 0, .slice none 0 0, .slice none 0 0] from hw4 ▸ Blk.at_ (by simp))
  clear hw4 hz4
  refine (copied_any b _ _ _ (HD.out.ext HE4.out) (HW.out.ext HE4.out) hld hlw).mono ?_
  rintro e w5 ⟨⟨v, rfl, dv, wv, rfl, o1, o2⟩, hE5⟩
  obtain ⟨Ad, nd, cd, rfl, -, -, -⟩ := (show SlD w5 dv b.draws from o1.sl (fun _ => rfl)).form
  obtain ⟨Aw, nw, cw, rfl, -, -, -⟩ := (show SlW w5 wv b.weighs from o2.sl (fun _ => rfl)).form
  have O1 := Lib.hid o1; have O2 := Lib.hid o2; have HE5 := Lib.hid hE5
  have HC0 := Lib.hid (HB0.out.ext hE5); have HC1 := Lib.hid (HB1.out.ext hE5); have HC2 := Lib.hid (HB2.out.ext hE5); have HC3 := Lib.hid (HB3.out.ext hE5)
  clear o1 o2 hE5 HB0 HB1 HB2 HB3
  have x0 := HC0.out.cell 0
  have x1 := HC0.out.cell 1
  have x2 := HC0.out.cell 2
  have x3 := HC0.out.cell 3
  have x4 := HC0.out.cell 4
  have x5 := HC0.out.cell 5
  have xl := HC0.out.lt
  have xf := HC0.out.frozen
  simp at x0 x1 x2 x3 x4 x5
  dsimp only [valB]
  go_wp2_with fail
  generalize hw6 : ((((((w5.setCell ⟨w.heap.size, 0, none⟩ (.int .i64 b.id)).setCell ⟨w.heap.size, 1, none⟩ (.int .i64 b.layers)).setCell ⟨w.heap.size, 2, none⟩ (.int .i64 b.dry.lo)).setCell ⟨w.heap.size, 3, none⟩ (.int .i64 b.dry.hi)).setCell ⟨w.heap.size, 4, none⟩ (.slice Ad nd cd)).setCell ⟨w.heap.size, 5, none⟩ (.slice Aw nw cw)) = w6
  have HK6 := Lib.hid (show Blk w6 w.heap.size 27 #[.int .i64 b.id, .int .i64 b.layers, .int .i64 b.dry.lo, .int .i64 b.dry.hi, .slice Ad nd cd, .slice Aw nw cw] from hw6 ▸ HC0.out.set6 _ _ _ _ _ _)
  have hG6 : w5.grownBy w6 (some w.heap.size) := hw6 ▸ grown_set (grown_set (grown_set (grown_set (grown_set (grown_set (World.grownBy.refl _ _) (p := ⟨w.heap.size, 0, none⟩) (.inl rfl) _) (p := ⟨w.heap.size, 1, none⟩) (.inl rfl) _) (p := ⟨w.heap.size, 2, none⟩) (.inl rfl) _) (p := ⟨w.heap.size, 3, none⟩) (.inl rfl) _) (p := ⟨w.heap.size, 4, none⟩) (.inl rfl) _) (p := ⟨w.heap.size, 5, none⟩) (.inl rfl) _
  have hz4 := HZ4.out
  have E6 := Lib.hid (show Ext w w6 from ext_grown (HE4.out.trans HE5.out) hG6 (Nat.le_refl _))
  have hs6 : w4.heap.size ≤ w6.heap.size := Nat.le_trans HE5.out.size hG6.size
  have P1 := Lib.hid (show Own encD 63 4 w6 w4.heap.size (.slice Ad nd cd) b.draws from own_kept O1.out hG6 (by omega))
  have P2 := Lib.hid (show Own encW 65 4 w6 w4.heap.size (.slice Aw nw cw) b.weighs from own_kept O2.out hG6 (by omega))
  have HD1 := Lib.hid (HC1.out.grown hG6 (by intro e; injection e with e; omega)); have HD2 := Lib.hid (HC2.out.grown hG6 (by intro e; injection e with e; omega)); have HD3 := Lib.hid (HC3.out.grown hG6 (by intro e; injection e with e; omega))
  have HF := Lib.hid (f116_any 117 #[.pointer (some ⟨w.heap.size + 1, 0, none⟩)] (enters_of Tryd.func117 (by kernel_rfl) rfl) (fun x => l.any fun y => decide (x.number = y)) b.draws _ w4.heap.size w6 hs6 P1.out
    (fun W x hB => f117_any l A3 n3 cp3 (w.heap.size + 1) x W ((HD1.out.below hB (by omega)).cell 0) (HL.out.ext (Below.trans E6.out (Below.mono hB (by omega))))))
  clear hw6 hG6 HC0 HC1 HC2 HC3 O1 O2 x0 x1 x2 x3 x4 x5 xl xf hz4
  refine HF.out.mono ?_
  rintro e w7 ⟨v7, rfl, q1, G7⟩
  have B7 : Below w4.heap.size w6 w7 := own_below P1.out hs6 G7
  have hz4 := HZ4.out
  have hs7 : w4.heap.size ≤ w7.heap.size := Nat.le_trans hs6 B7.size
  obtain ⟨Ae, ne, ce, rfl, -, -, -⟩ := (show SlD w7 v7 _ from q1.sl (fun _ => rfl)).form
  have Q1 := Lib.hid q1
  have Q2 := Lib.hid (own_apart P2.out P1.out (by decide) G7)
  have HK7 := Lib.hid (HK6.out.below B7 (by omega)); have HF1 := Lib.hid (HD1.out.below B7 (by omega)); have HF2 := Lib.hid (HD2.out.below B7 (by omega)); have HF3 := Lib.hid (HD3.out.below B7 (by omega))
  have E7 := Lib.hid (show Ext w w7 from Below.trans E6.out (Below.mono B7 (by omega)))
  have x0 := HK7.out.cell 0
  have x1 := HK7.out.cell 1
  have x2 := HK7.out.cell 2
  have x3 := HK7.out.cell 3
  have x4 := HK7.out.cell 4
  have x5 := HK7.out.cell 5
  have xl := HK7.out.lt
  have xf := HK7.out.frozen
  simp at x0 x1 x2 x3 x4 x5
  clear HF q1 G7 B7 P1 P2 HK6 HD1 HD2 HD3 hs6 hz4
  go_wp2_with fail
  generalize hw8 : w7.setCell ⟨w.heap.size, 4, none⟩ (.slice Ae ne ce) = w8
  have hz4 := HZ4.out
  have hs8 : w8.heap.size = w7.heap.size := by rw [← hw8]; simp [World.setCell]
  have HK8 := Lib.hid (show Blk w8 w.heap.size 27 #[.int .i64 b.id, .int .i64 b.layers, .int .i64 b.dry.lo, .int .i64 b.dry.hi, .slice Ae ne ce, .slice Aw nw cw] from hw8 ▸ (by have := HK7.out.set_ 4 (.slice Ae ne ce); simpa using this))
  have HG1 := Lib.hid (show Blk w8 (w.heap.size + 1) 56 #[.slice A3 n3 cp3] from hw8 ▸ HF1.out.far (by dsimp only; omega) _)
  have HG2 := Lib.hid (show Blk w8 (w.heap.size + 1 + 1) 56 #[.slice A4 n4 cp4] from hw8 ▸ HF2.out.far (by dsimp only; omega) _)
  have HG3 := Lib.hid (show Blk w8 (w.heap.size + 1 + 1 + 1) 27 _ from hw8 ▸ HF3.out.far (by dsimp only; omega) _)
  have E8 := Lib.hid (show Ext w w8 from hw8 ▸ E7.out.setCell (Nat.le_refl _) _)
  have R1 := Lib.hid (show Own encD 63 4 w8 w4.heap.size (.slice Ae ne ce) _ from hw8 ▸ own_set Q1.out (by omega))
  have R2 := Lib.hid (show Own encW 65 4 w8 w4.heap.size (.slice Aw nw cw) b.weighs from hw8 ▸ own_set Q2.out (by omega))
  have HF := Lib.hid (f119_any 120 #[.pointer (some ⟨w.heap.size + 1 + 1, 0, none⟩)] (enters_of Tryd.func120 (by kernel_rfl) rfl) (fun x => k.any fun y => decide (x.number = y)) b.weighs _ w4.heap.size w8 (by omega) R2.out
    (fun W x hB => f120_any k A4 n4 cp4 (w.heap.size + 1 + 1) x W ((HG2.out.below hB (by omega)).cell 0) (HK.out.ext (Below.trans E8.out (Below.mono hB (by omega))))))
  clear hw8 HF1 HF2 HF3 HK7 Q1 Q2 E7 x0 x1 x2 x3 x4 x5 xl xf hz4
  refine HF.out.mono ?_
  rintro e w9 ⟨v9, rfl, q2, G9⟩
  have B9 : Below w4.heap.size w8 w9 := own_below R2.out (by omega) G9
  have hz4 := HZ4.out
  obtain ⟨Af, nf, cf, rfl, -, -, -⟩ := (show SlW w9 v9 _ from q2.sl (fun _ => rfl)).form
  have Q2 := Lib.hid q2
  have Q1 := Lib.hid (own_apart R1.out R2.out (by decide) G9)
  have HK9 := Lib.hid (HK8.out.below B9 (by omega)); have HF3 := Lib.hid (HG3.out.below B9 (by omega))
  have E9 := Lib.hid (show Ext w w9 from Below.trans E8.out (Below.mono B9 (by omega)))
  have x0 := HK9.out.cell 0
  have x1 := HK9.out.cell 1
  have x2 := HK9.out.cell 2
  have x3 := HK9.out.cell 3
  have x4 := HK9.out.cell 4
  have x5 := HK9.out.cell 5
  have xl := HK9.out.lt
  have xf := HK9.out.frozen
  have t0 := HF3.out.cell 0
  have t1 := HF3.out.cell 1
  have t2 := HF3.out.cell 2
  have t3 := HF3.out.cell 3
  have t4 := HF3.out.cell 4
  have t5 := HF3.out.cell 5
  have tl := HF3.out.lt
  have tf := HF3.out.frozen
  simp at x0 x1 x2 x3 x4 x5 t0 t1 t2 t3 t4 t5
  clear HF q2 G9 B9 R1 R2 HK8 HG1 HG2 HG3 hz4
  go_wp2_with fail
  have hz4 := HZ4.out
  have HB9 : Blk (w9.setCell ⟨w.heap.size, 5, none⟩ (.slice Af nf cf)) (w.heap.size + 1 + 1 + 1) 27 #[.int .i64 0, .int .i64 0, .int .i64 0, .int .i64 0, .slice none 0 0, .slice none 0 0] := HF3.out.far (by dsimp only; omega) _
  refine ret_set6 HB9 fun W' ⟨b0, b1, b2, b3, b4, b5⟩ hW => ?_
  refine bodyPost_ret (v := valB b (.slice Ae ne ce) (.slice Af nf cf)) (by simp [results, Tryd.results86, go_sem, b0, b1, b2, b3, b4, b5]) rfl ?_
  refine ⟨⟨_, rfl, ⟨.slice Ae ne ce, .slice Af nf cf, rfl, ?_, ?_⟩⟩, ext_grown (E9.out.setCell (Nat.le_refl _) _) hW (by omega)⟩
  · exact own_mono (own_kept (own_set Q1.out (by omega)) hW (by omega)) (by omega)
  · exact own_mono (own_kept (own_set Q2.out (by omega)) hW (by omega)) (by omega)
end Go.Proofs.YtcoiahjehlplfaaDoor
