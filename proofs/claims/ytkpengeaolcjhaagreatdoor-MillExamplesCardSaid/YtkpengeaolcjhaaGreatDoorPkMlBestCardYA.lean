/- A mill that is handed over, opened: what its reading says of its memory; and the two tables of checks, as the rows list them. -/
import Derived.Test.YtkpengeaolcjhaaGreatDoorPkMlBestCardO
import Derived.Test.YtkpengeaolcjhaaGreatDoorPkMlBestCardK
namespace Go.Proofs.YtkpengeaolcjhaaGreatDoor
open Go.RowKit Go.Shelf Go.ChangeShapes Go.WideShapes Go.ChangeAt
set_option maxRecDepth 100000

theorem sl_mapped {α β : Type} {enc : β → List Value} {f : α → β} {sz : Nat} {w : World} {v : Value} {l : List α} (h : Sl (fun x => enc (f x)) sz w v l) : Sl enc sz w v (l.map f) := by
  obtain ⟨A, m, rfl, hl, hm, hx⟩ := h
  refine ⟨A, m, by simp, by simpa using hl, hm, fun h0 => ?_⟩
  obtain ⟨b, off, hA, hb, hc⟩ := hx (by simpa using h0)
  refine ⟨b, off, hA, hb, fun k x hk j u hu => ?_⟩
  simp at hk
  obtain ⟨y, hy, rfl⟩ := hk
  exact hc k y hy j u hu
section
variable {H : Type} {enc : TypeId × Value → H} {P : Program} {w : World}
/-- A slice whose elements are each the cells of an x of which more is known. -/
theorem sl_of_trodG {α : Type} {Good : α → Prop} {enc' : α → List Value} {sz : Nat} {t e : TypeId} {fuel : Nat} {v : Value} {y : DataW H × List MemPlace} (ht : P.underlying t = some (.slice e)) (hc : P.cellsOf e = sz) (hsz : 0 < sz) (henc : ∀ x, (enc' x).length = sz)
    (hel : ∀ (n : Nat) (cs : List Value) (z : DataW H × List MemPlace), DataW.trod enc P w 0 (fun _ => true) true n e cs = some z → cs.length = sz → ∃ x : α, cs = enc' x ∧ Good x)
    (h : DataW.trod enc P w 0 (fun _ => true) true fuel t [v] = some y) : ∃ l : List α, Sl enc' sz w v l ∧ ∀ x ∈ l, Good x := by
  obtain ⟨l, hl⟩ := sl_of_trod (α := { x : α // Good x }) (enc' := fun x => enc' x.1) ht hc hsz (fun x => henc x.1) (fun n cs z hz hlen => by obtain ⟨x, hx, hg⟩ := hel n cs z hz hlen; exact ⟨⟨x, hg⟩, hx⟩) h
  refine ⟨l.map (·.1), sl_mapped hl, fun x hx => ?_⟩
  obtain ⟨y, _, rfl⟩ := List.mem_map.1 hx
  exact y.2
end

section
variable {H : Type} {enc : TypeId × Value → H} {w : World}
theorem co2061 : Tryz.prog.cellsOf 63 = 8 := by kernel_rfl
theorem co2024 : Tryz.prog.cellsOf 24 = 3 := by kernel_rfl
theorem co2022 : Tryz.prog.cellsOf 22 = 1 := by kernel_rfl
theorem eight {α : Type} {cs : List α} (h : cs.length = 8) : ∃ c0 c1 c2 c3 c4 c5 c6 c7, cs = [c0, c1, c2, c3, c4, c5, c6, c7] := by
  match cs, h with
  | [c0, c1, c2, c3, c4, c5, c6, c7], _ => exact ⟨c0, c1, c2, c3, c4, c5, c6, c7, rfl⟩
theorem bale_of {n : Nat} {c0 c1 c2 c3 c4 c5 : Value} {z : DataW H × List MemPlace} (h : DataW.trod enc Tryz.prog w 0 (fun _ => true) true n 61 [c0, c1, c2, c3, c4, c5] = some z) :
    ∃ b : Bale, c0 = .int .i64 b.id ∧ c1 = .int .i64 b.layers ∧ c2 = .int .i64 b.dry.lo ∧ c3 = .int .i64 b.dry.hi ∧ SlD w c4 b.draws ∧ SlW w c5 b.weighs := by
  obtain ⟨xs, m, _, _, _, hxs, hg⟩ := DataW.trod_struct Tryz.underlying61 h
  match xs, hxs with
  | [y0, y1, y2, y3, y4], _ =>
    have g0 := hg 0 _ rfl
    have g1 := hg 1 _ rfl
    have g2 := hg 2 _ rfl
    have g3 := hg 3 _ rfl
    have g4 := hg 4 _ rfl
    simp [co3, co23, co24, co25] at g0 g1 g2 g3 g4
    obtain ⟨x0, hx0⟩ := int_of g0
    obtain ⟨x1, hx1⟩ := int_of g1
    obtain ⟨x2, hx2⟩ := span_of g2 rfl
    obtain ⟨l3, hx3⟩ := sl_of_trod Tryz.underlying58 co63 (by decide) (fun _ => rfl) (fun _ _ _ => draw_of) g3
    obtain ⟨l4, hx4⟩ := sl_of_trod Tryz.underlying59 co65 (by decide) (fun _ => rfl) (fun _ _ _ => weigh_of) g4
    simp at hx0 hx1 hx2
    exact ⟨⟨x0, x1, x2, l3, l4⟩, hx0, hx1, hx2.1, hx2.2, hx3, hx4⟩
theorem cot_of {n : Nat} {cs : List Value} {z : DataW H × List MemPlace} (h : DataW.trod enc Tryz.prog w 0 (fun _ => true) true n 63 cs = some z) (hl : cs.length = 8) :
    ∃ r : Rc, cs = encC r ∧ (SlD w (.slice r.da r.dn r.dc) r.c.b.draws ∧ SlW w (.slice r.wa r.wn r.wc) r.c.b.weighs) := by
  obtain ⟨c0, c1, c2, c3, c4, c5, c6, c7, rfl⟩ := eight hl
  obtain ⟨xs, m, _, _, _, hxs, hg⟩ := DataW.trod_struct Tryz.underlying63 h
  match xs, hxs with
  | [y0, y1, y2], _ =>
    have g0 := hg 0 _ rfl
    have g1 := hg 1 _ rfl
    have g2 := hg 2 _ rfl
    simp [co3, show Tryz.prog.cellsOf 61 = 6 by kernel_rfl] at g0 g1 g2
    obtain ⟨b, rfl, rfl, rfl, rfl, hd, hw⟩ := bale_of g0
    obtain ⟨x1, hx1⟩ := int_of g1
    obtain ⟨x2, hx2⟩ := int_of g2
    simp at hx1 hx2
    subst hx1 hx2
    obtain ⟨da, dn, dc, rfl, -, -, -⟩ := hd.form
    obtain ⟨wa, wn, wc, rfl, -, -, -⟩ := hw.form
    exact ⟨⟨⟨b, x1, x2⟩, da, dn, dc, wa, wn, wc⟩, rfl, hd, hw⟩
/-- A mill by value: its numbers, and the cottons that its slice reads as. -/
theorem open_mill {r : Reach} {b0 : Nat} {v : Value} {d : DataW H} {p : List MemPlace} (hv : Value.okWide Tryz.prog w r b0 24 v) (h : DataW.Trod enc Tryz.prog w 0 (fun _ => true) true 24 v d p) :
    ∃ (lots size : Int) (l : List Rc) (sv : Value), v = valM lots size sv ∧ MlC w sv l := by
  obtain ⟨cs, rfl, hsz⟩ := okWide_struct Tryz.underlying24 hv
  obtain ⟨c0, c1, c2, rfl⟩ : ∃ c0 c1 c2, cs = #[c0, c1, c2] := by
    obtain ⟨l⟩ := cs
    match l, hsz.trans co2024 with
    | [c0, c1, c2], _ => exact ⟨c0, c1, c2, rfl⟩
  obtain ⟨fuel, hf⟩ := h
  obtain ⟨xs, m, _, _, _, hxs, hg⟩ := DataW.trod_struct Tryz.underlying24 hf
  match xs, hxs with
  | [y0, y1, y2], _ =>
    have g0 := hg 0 _ rfl
    have g1 := hg 1 _ rfl
    have g2 := hg 2 _ rfl
    simp [co3, co2022, Value.cells] at g0 g1 g2
    obtain ⟨x0, hx0⟩ := int_of g0
    obtain ⟨x1, hx1⟩ := int_of g1
    obtain ⟨l, hx2, hgd⟩ := sl_of_trodG (enc' := encC) (Good := fun r => SlD w (.slice r.da r.dn r.dc) r.c.b.draws ∧ SlW w (.slice r.wa r.wn r.wc) r.c.b.weighs) Tryz.underlying22 co2061 (by decide) (fun _ => rfl) (fun _ _ _ => cot_of) g2
    simp at hx0 hx1
    exact ⟨x0, x1, l, c2, by rw [hx0, hx1], hx2, hgd⟩
end

/-! The tables. -/
theorem gTabM : Tryz.prog.globalNamed "middling/mill.checks" = some 0 := by kernel_rfl
theorem tTabM : (Tryz.prog.globals[0]?).map (·.type) = some 149 := by kernel_rfl
theorem coTabM : Tryz.prog.cellsOf 149 = 4 := by kernel_rfl
theorem coRowM : Tryz.prog.cellsOf 148 = 1 := by kernel_rfl
theorem coFnM : Tryz.prog.cellsOf 25 = 1 := by kernel_rfl
theorem rowM_of {W : World} {n : Nat} {c : Value} {y : DataW (List UInt8) × List MemPlace} {b : UInt8} {r : List UInt8} {f0 : FuncId} (hone : ((List.range Tryz.prog.funcs.size).filter fun f => (Tryz.prog.funcs[f]?).any (·.name.toUTF8.data.toList == b :: r)) = [f0])
    (hy : y.1 = .agg [.held (b :: r)]) (h : DataW.trod (funcToken Tryz.prog) Tryz.prog W 0 (fun _ => true) true n 148 [c] = some y) : c = .func (.func f0) #[] #[] := by
  obtain ⟨z, m, rfl, _, hz⟩ := trod_struct1 Tryz.underlying148 h
  simp at hy
  simp [coFnM] at hz
  obtain ⟨z1, z2⟩ := z
  simp at hy
  subst hy
  exact Go.func_of_trod Tryz.underlying25 hone hz
theorem tabM_of {W : World} (h : laidMetH Tryz.prog [("middling/core.checks", Rows.laid_middling_core_checks), ("middling/mill.checks", Rows.laid_middling_mill_checks)] W) : TabM W := by
  refine ⟨tab_ofL (List.mem_cons_self ..) h, ?_⟩
  obtain ⟨g, t, cs, fuel, p, hg, ht, hv, hd⟩ := h.funcs (List.mem_cons_of_mem _ (List.mem_singleton.2 rfl))
  obtain rfl := Option.some.inj (gTabM.symm.trans hg)
  obtain rfl := Option.some.inj (tTabM.symm.trans ht)
  have hd' : DataW.trod (funcToken Tryz.prog) Tryz.prog W 0 (fun _ => true) true fuel 149 cs.toList = some (.agg [.agg [.held [109, 105, 100, 100, 108, 105, 110, 103, 47, 109, 105, 108, 108, 46, 99, 104, 101, 99, 107, 115, 36, 49]], .agg [.held [109, 105, 100, 100, 108, 105, 110, 103, 47, 109, 105, 108, 108, 46, 99, 104, 101, 99, 107, 115, 36, 50]], .agg [.held [109, 105, 100, 100, 108, 105, 110, 103, 47, 109, 105, 108, 108, 46, 99, 104, 101, 99, 107, 115, 36, 51]], .agg [.held [109, 105, 100, 100, 108, 105, 110, 103, 47, 109, 105, 108, 108, 46, 99, 104, 101, 99, 107, 115, 36, 52]]], p) := hd
  obtain ⟨xs, m, _, hx, hl, hxs, hi⟩ := DataW.trod_array Tryz.underlying149 hd'
  have h4 : cs.size = 4 := by rw [coTabM] at hl; simpa using hl
  obtain ⟨c0, c1, c2, c3, rfl⟩ : ∃ c0 c1 c2 c3, cs = #[c0, c1, c2, c3] := by
    obtain ⟨l⟩ := cs
    match l, h4 with
    | [c0, c1, c2, c3], _ => exact ⟨c0, c1, c2, c3, rfl⟩
  match xs, hxs with
  | [y0, y1, y2, y3], _ =>
    have g0 := hi 0 (by decide)
    have g1 := hi 1 (by decide)
    have g2 := hi 2 (by decide)
    have g3 := hi 3 (by decide)
    simp [coRowM] at g0 g1 g2 g3
    simp only [List.map_cons, List.map_nil, Prod.mk.injEq, DataW.agg.injEq, List.cons.injEq, and_true] at hx
    obtain ⟨⟨e0, e1, e2, e3⟩, _⟩ := hx
    obtain rfl := rowM_of (f0 := 187) (by kernel_rfl) e0.symm g0
    obtain rfl := rowM_of (f0 := 188) (by kernel_rfl) e1.symm g1
    obtain rfl := rowM_of (f0 := 191) (by kernel_rfl) e2.symm g2
    obtain rfl := rowM_of (f0 := 194) (by kernel_rfl) e3.symm g3
    have k0 : W.cell? ⟨0, 0, none⟩ = some (.func (.func 187) #[] #[]) := World.var?_cell hg hv 0
    exact ⟨at_lt k0, k0, World.var?_cell hg hv 1, World.var?_cell hg hv 2, World.var?_cell hg hv 3⟩

/-- A world for the witness: the settled one, the tables holding what their initialisers lay. -/
noncomputable def laidWorldM (os : Os) : World :=
  { World.holding Tryz.prog os ⟨#[], #[], []⟩ with heap := (laidWorld os).heap.modify 0 fun
      | .cells _ t frozen => .cells #[.func (.func 187) #[] #[], .func (.func 188) #[] #[], .func (.func 191) #[] #[], .func (.func 194) #[] #[]] t frozen
      | o => o }
/-- The empty mill. -/
def noMill : Value := .agg #[.int .i64 0, .int .i64 0, .slice none 0 0]
def noMillD {H : Type} : DataW H := .agg [.lit (.int .i64 0), .lit (.int .i64 0), .nil]
theorem laid_metM (os : Os) (args : Array Value) : laidMetH Tryz.prog [("middling/core.checks", Rows.laid_middling_core_checks), ("middling/mill.checks", Rows.laid_middling_mill_checks)] ((laidWorldM os).forCall (fun _ _ => 0) ⟨#[], args, []⟩).memory :=
  laidMetH_of_parts3 (fuel := 8) (laidMet_of_run' 8 (by kernel_rfl) (by kernel_rfl)) (by kernel_rfl) (by kernel_rfl)
end Go.Proofs.YtkpengeaolcjhaaGreatDoor
