/- A chain that is handed over, opened: what its reading says of its memory; the table of checks, as the row lists it; and what each proof of a law ends with. -/
import Derived.Test.YtafdbgielmlihaaDoorPkChLeastCardC
import Derived.Test.YtafdbgielmlihaaDoorCards
import Derived.Test.YtafdbgielmlihaaDoorTie
import Derived.WalkKit
import Derived.ProofKit
import Derived.OpenShut
import Derived.Carry
import Derived.Deep.Slices
import Derived.Deep.DeepHandedRow
import Derived.LaidMore
import Derived.LaidHandle
namespace Go.Proofs.YtafdbgielmlihaaDoor
open Go.RowKit Go.Shelf Go.ChangeShapes Go.WideShapes Go.ChangeAt
set_option maxRecDepth 100000

section
variable {H : Type} {enc : TypeId × Value → H} {P : Program} {w : World}
theorem at_lt {a : Addr} {v : Value} (h : w.cell? a = some v) : a.block < w.heap.size := by
  unfold World.cell? at h
  cases hb : w.heap[a.block]? with
  | none => simp [hb] at h
  | some o => exact (Array.getElem?_eq_some_iff.1 hb).1
/-- A slice whose elements are each the cells of an x: a list of these. -/
theorem sl_of_trod {α : Type} {enc' : α → List Value} {sz : Nat} {t e : TypeId} {fuel : Nat} {v : Value} {y : DataW H × List MemPlace} (ht : P.underlying t = some (.slice e)) (hc : P.cellsOf e = sz) (hsz : 0 < sz) (henc : ∀ x, (enc' x).length = sz)
    (hel : ∀ (n : Nat) (cs : List Value) (z : DataW H × List MemPlace), DataW.trod enc P w 0 (fun _ => true) true n e cs = some z → cs.length = sz → ∃ x : α, cs = enc' x)
    (h : DataW.trod enc P w 0 (fun _ => true) true fuel t [v] = some y) : ∃ l : List α, Sl enc' sz w v l := by
  rcases Go.Deep.open_slice ht h with ⟨hv, _⟩ | ⟨a, len, cap, m, n, D, Pl, hv, _, hl, hm, hmm, _, hx⟩
  · obtain rfl : v = .slice none 0 0 := by simpa using hv
    exact ⟨[], Sl.nil w⟩
  · obtain rfl : v = .slice (some a) len cap := by simpa using hv
    simp at hmm
    subst hmm
    have each : ∀ i, i < len → ∃ x : α, w.cells? 0 (a.add (i * sz)) sz = some (enc' x) := by
      intro i hi
      obtain ⟨cs', h1, h2⟩ := hx i (by omega)
      rw [hc] at h1
      obtain ⟨x, rfl⟩ := hel n cs' _ h2 (World.cells?_some h1).2.1
      exact ⟨x, h1⟩
    classical
    refine ⟨List.ofFn fun i : Fin len => Classical.choose (each i i.2), some a, m, by simp, by simpa using hl, hm, fun h0 => ?_⟩
    have hlen : 0 < len := by simpa using h0
    have cell : ∀ i (hi : i < len) j u, (enc' (Classical.choose (each i hi)))[j]? = some u → w.cell? ((a.add (i * sz)).add j) = some u := by
      intro i hi j u hu
      have hs := World.cells?_some (Classical.choose_spec (each i hi))
      rw [← hu]
      exact hs.2.2 j (by have := (List.getElem?_eq_some_iff.1 hu).1; rw [henc] at this; exact this)
    have c0 : ∃ u, (enc' (Classical.choose (each 0 hlen)))[0]? = some u := ⟨_, List.getElem?_eq_getElem (by rw [henc]; exact hsz)⟩
    obtain ⟨u, hu⟩ := c0
    have c0 := cell 0 hlen 0 u hu
    obtain ⟨b, off, spot⟩ := a
    have hspot : spot = none := by simpa [Addr.add] using World.cell?_spot c0
    subst hspot
    refine ⟨b, off, rfl, by simpa [Addr.add] using at_lt c0, fun k x hk j u hu => ?_⟩
    obtain ⟨hk', rfl⟩ := List.getElem?_eq_some_iff.1 hk
    simp at hk'
    rw [List.getElem_ofFn] at hu
    have := cell k hk' j u hu
    rw [Addr.add_lit, Addr.add_lit] at this
    exact this
end

section
variable {H : Type} {enc : TypeId × Value → H} {w : World}
theorem co3 : Tryd.prog.cellsOf 3 = 1 := by kernel_rfl
theorem co22 : Tryd.prog.cellsOf 22 = 1 := by kernel_rfl
theorem co23 : Tryd.prog.cellsOf 23 = 1 := by kernel_rfl
theorem co68 : Tryd.prog.cellsOf 68 = 5 := by kernel_rfl
theorem co25 : Tryd.prog.cellsOf 25 = 2 := by kernel_rfl
theorem co48 : Tryd.prog.cellsOf 48 = 2 := by kernel_rfl
theorem int_of {n : Nat} {cs : List Value} {z : DataW H × List MemPlace} (h : DataW.trod enc Tryd.prog w 0 (fun _ => true) true n 3 cs = some z) : ∃ x : Int, cs = [.int .i64 x] := by
  obtain ⟨x, hx, _⟩ := DataW.trod_int Tryd.underlying3 h
  exact ⟨x, hx⟩
theorem sale_of {n : Nat} {cs : List Value} {z : DataW H × List MemPlace} (h : DataW.trod enc Tryd.prog w 0 (fun _ => true) true n 68 cs = some z) (hl : cs.length = 5) : ∃ x : Sale, cs = encL x := by
  obtain ⟨xs, m, _, _, _, hxs, hf⟩ := DataW.trod_struct Tryd.underlying68 h
  match cs, hl, xs, hxs with
  | [c0, c1, c2, c3, c4], _, [y0, y1, y2, y3, y4], _ =>
    have g0 := hf 0 _ rfl
    have g1 := hf 1 _ rfl
    have g2 := hf 2 _ rfl
    have g3 := hf 3 _ rfl
    have g4 := hf 4 _ rfl
    simp [co3] at g0 g1 g2 g3 g4
    obtain ⟨x0, hx0⟩ := int_of g0
    obtain ⟨x1, hx1⟩ := int_of g1
    obtain ⟨x2, hx2⟩ := int_of g2
    obtain ⟨x3, hx3⟩ := int_of g3
    obtain ⟨x4, hx4⟩ := int_of g4
    simp at hx0 hx1 hx2 hx3 hx4
    exact ⟨⟨x0, x1, x2, x3, x4⟩, by rw [hx0, hx1, hx2, hx3, hx4]⟩
/-- A chain by value: the two lists that its slices read as. -/
theorem open_chain {r : Reach} {b0 : Nat} {v : Value} {d : DataW H} {p : List MemPlace} (hv : Value.okWide Tryd.prog w r b0 25 v) (h : DataW.Trod enc Tryd.prog w 0 (fun _ => true) true 25 v d p) :
    ∃ (c : Chn) (hv sv : Value), v = valC hv sv ∧ SlI w hv c.houses ∧ SlL w sv c.sales := by
  obtain ⟨cs, rfl, hsz⟩ := okWide_struct Tryd.underlying25 hv
  obtain ⟨c0, c1, rfl⟩ : ∃ c0 c1, cs = #[c0, c1] := by
    obtain ⟨l⟩ := cs
    match l, hsz.trans co25 with
    | [c0, c1], _ => exact ⟨c0, c1, rfl⟩
  obtain ⟨fuel, hf⟩ := h
  obtain ⟨xs, m, _, _, _, hxs, hg⟩ := DataW.trod_struct Tryd.underlying25 hf
  match xs, hxs with
  | [y0, y1], _ =>
    have g0 := hg 0 _ rfl
    have g1 := hg 1 _ rfl
    simp [co22, co23, Value.cells] at g0 g1
    obtain ⟨l0, hx0⟩ := sl_of_trod (enc' := encI) Tryd.underlying22 co3 (by decide) (fun _ => rfl) (fun _ _ _ h _ => int_of h) g0
    obtain ⟨l1, hx1⟩ := sl_of_trod (enc' := encL) Tryd.underlying23 co68 (by decide) (fun _ => rfl) (fun _ _ _ => sale_of) g1
    exact ⟨⟨l0, l1⟩, c0, c1, rfl, hx0, hx1⟩
theorem open_sale {r : Reach} {b0 : Nat} {v : Value} {d : DataW H} {p : List MemPlace} (hv : Value.okWide Tryd.prog w r b0 68 v) (h : DataW.Trod enc Tryd.prog w 0 (fun _ => true) true 68 v d p) : ∃ x : Sale, v = valL x := by
  obtain ⟨cs, rfl, hsz⟩ := okWide_struct Tryd.underlying68 hv
  obtain ⟨fuel, hf⟩ := h
  obtain ⟨x, hx⟩ := sale_of hf (by simpa [Value.cells] using hsz.trans co68)
  exact ⟨x, by
    obtain ⟨l⟩ := cs
    simp [Value.cells] at hx
    subst hx
    rfl⟩
theorem open_ints {r : Reach} {b0 : Nat} {v : Value} {d : DataW H} {p : List MemPlace} (hv : Value.okWide Tryd.prog w r b0 22 v) (h : DataW.Trod enc Tryd.prog w 0 (fun _ => true) true 22 v d p) : ∃ l : List Int, SlI w v l := by
  obtain ⟨a, n, c, rfl⟩ := okWide_slice Tryd.underlying22 hv
  obtain ⟨fuel, hf⟩ := h
  exact sl_of_trod (enc' := encI) Tryd.underlying22 co3 (by decide) (fun _ => rfl) (fun _ _ _ h _ => int_of h) hf
theorem trodAll_fiveL {P : Program} {w : World} {base : Nat} {spare : Nat → Bool} {held : Bool} {t0 t1 t2 t3 t4 : TypeId} {args : Array Value} {ds : List (DataW H)} {ps : List MemPlace} (h : DataW.TrodAll enc P w base spare held [t0, t1, t2, t3, t4] args.toList ds ps) :
    ∃ v0 v1 v2 v3 v4 d0 d1 d2 d3 d4 p0 p1 p2 p3 p4, args = #[v0, v1, v2, v3, v4] ∧ ds = [d0, d1, d2, d3, d4] ∧ ps = p0 ++ (p1 ++ (p2 ++ (p3 ++ (p4)))) ∧ DataW.Trod enc P w base spare held t0 v0 d0 p0 ∧ DataW.Trod enc P w base spare held t1 v1 d1 p1 ∧ DataW.Trod enc P w base spare held t2 v2 d2 p2 ∧ DataW.Trod enc P w base spare held t3 v3 d3 p3 ∧ DataW.Trod enc P w base spare held t4 v4 d4 p4 := by
  obtain ⟨v0, vs0, d0, ds0, p0, q0, e0, rfl, rfl, h0, r0⟩ := trodAll_cons h
  obtain ⟨v1, vs1, d1, ds1, p1, q1, rfl, rfl, rfl, h1, r1⟩ := trodAll_cons r0
  obtain ⟨v2, vs2, d2, ds2, p2, q2, rfl, rfl, rfl, h2, r2⟩ := trodAll_cons r1
  obtain ⟨v3, vs3, d3, ds3, p3, q3, rfl, rfl, rfl, h3, r3⟩ := trodAll_cons r2
  obtain ⟨v4, vs4, d4, ds4, p4, q4, rfl, rfl, rfl, h4, r4⟩ := trodAll_cons r3
  obtain ⟨rfl, rfl, rfl⟩ := trodAll_nil r4
  exact ⟨v0, v1, v2, v3, v4, d0, d1, d2, d3, d4, p0, p1, p2, p3, p4, by cases args; simp_all, rfl, by simp, h0, h1, h2, h3, h4⟩
theorem trodAll_only {P : Program} {w : World} {base : Nat} {spare : Nat → Bool} {held : Bool} {t : TypeId} {args : Array Value} {ds : List (DataW H)} {ps : List MemPlace} (h : DataW.TrodAll enc P w base spare held [t] args.toList ds ps) :
    ∃ v d p, args = #[v] ∧ ds = [d] ∧ ps = p ∧ DataW.Trod enc P w base spare held t v d p := by
  obtain ⟨v, vs, d, ds', p, q, hargs, rfl, rfl, hd, hrest⟩ := trodAll_cons h
  obtain ⟨rfl, rfl, rfl⟩ := trodAll_nil hrest
  exact ⟨v, d, p, by cases args; simp_all, rfl, by simp, hd⟩
end

/-! The table. -/
theorem own : ownKnob Tryd.prog.godebug = none := by kernel_rfl
theorem gTab : Tryd.prog.globalNamed "middling/chain.checks" = some 0 := by kernel_rfl
theorem tTab : (Tryd.prog.globals[0]?).map (·.type) = some 149 := by kernel_rfl
theorem coTab : Tryd.prog.cellsOf 149 = 2 := by kernel_rfl
theorem laid_ok : laidOutB Tryd.prog = true := by kernel_rfl
theorem coRow : Tryd.prog.cellsOf 148 = 1 := by kernel_rfl
theorem coFn : Tryd.prog.cellsOf 26 = 1 := by kernel_rfl
theorem row_of {W : World} {n : Nat} {c : Value} {y : DataW (List UInt8) × List MemPlace} {b : UInt8} {r : List UInt8} {f0 : FuncId} (hone : ((List.range Tryd.prog.funcs.size).filter fun f => (Tryd.prog.funcs[f]?).any (·.name.toUTF8.data.toList == b :: r)) = [f0])
    (hy : y.1 = .agg [.held (b :: r)]) (h : DataW.trod (funcToken Tryd.prog) Tryd.prog W 0 (fun _ => true) true n 148 [c] = some y) : c = .func (.func f0) #[] #[] := by
  obtain ⟨z, m, rfl, _, hz⟩ := trod_struct1 Tryd.underlying148 h
  simp at hy
  simp [coFn] at hz
  obtain ⟨z1, z2⟩ := z
  simp at hy
  subst hy
  exact Go.func_of_trod Tryd.underlying26 hone hz
theorem tab_of {W : World} (h : laidMetH Tryd.prog [("middling/chain.checks", Rows.laid_middling_chain_checks)] W) : Tab W := by
  obtain ⟨g, t, cs, fuel, p, hg, ht, hv, hd⟩ := h.funcs (List.mem_singleton.2 rfl)
  obtain rfl := Option.some.inj (gTab.symm.trans hg)
  obtain rfl := Option.some.inj (tTab.symm.trans ht)
  have hd' : DataW.trod (funcToken Tryd.prog) Tryd.prog W 0 (fun _ => true) true fuel 149 cs.toList = some (.agg [.agg [.held [109, 105, 100, 100, 108, 105, 110, 103, 47, 99, 104, 97, 105, 110, 46, 99, 104, 101, 99, 107, 115, 36, 49]], .agg [.held [109, 105, 100, 100, 108, 105, 110, 103, 47, 99, 104, 97, 105, 110, 46, 99, 104, 101, 99, 107, 115, 36, 50]]], p) := hd
  obtain ⟨xs, m, _, hx, hl, hxs, hi⟩ := DataW.trod_array Tryd.underlying149 hd'
  have h4 : cs.size = 2 := by rw [coTab] at hl; simpa using hl
  obtain ⟨c0, c1, rfl⟩ : ∃ c0 c1, cs = #[c0, c1] := by
    obtain ⟨l⟩ := cs
    match l, h4 with
    | [c0, c1], _ => exact ⟨c0, c1, rfl⟩
  match xs, hxs with
  | [y0, y1], _ =>
    have g0 := hi 0 (by decide)
    have g1 := hi 1 (by decide)
    simp [coRow] at g0 g1
    simp only [List.map_cons, List.map_nil, Prod.mk.injEq, DataW.agg.injEq, List.cons.injEq, and_true] at hx
    obtain ⟨⟨e0, e1⟩, _⟩ := hx
    obtain rfl := row_of (f0 := 147) (by kernel_rfl) e0.symm g0
    obtain rfl := row_of (f0 := 149) (by kernel_rfl) e1.symm g1
    have k0 : W.cell? ⟨0, 0, none⟩ = some (.func (.func 147) #[] #[]) := World.var?_cell hg hv 0
    exact ⟨Nat.lt_of_le_of_lt (Nat.zero_le _) (at_lt k0), k0, World.var?_cell hg hv 1⟩

/-- A world for the witness: the settled one, the table holding what its initialiser lays. -/
noncomputable def laidWorld (os : Os) : World :=
  { World.holding Tryd.prog os ⟨#[], #[], []⟩ with heap := (World.holding Tryd.prog os ⟨#[], #[], []⟩).heap.modify 0 fun
      | .cells _ t frozen => .cells #[.func (.func 147) #[] #[], .func (.func 149) #[] #[]] t frozen
      | o => o }
/-- The empty chain; a sale of zeros. -/
def noChain : Value := .agg #[.slice none 0 0, .slice none 0 0]
def noChainD {H : Type} : DataW H := .agg [.nil, .nil]
def noSale : Value := .agg #[.int .i64 0, .int .i64 0, .int .i64 0, .int .i64 0, .int .i64 0]
def noSaleD {H : Type} : DataW H := .agg [.lit (.int .i64 0), .lit (.int .i64 0), .lit (.int .i64 0), .lit (.int .i64 0), .lit (.int .i64 0)]
theorem laid_met (os : Os) (args : Array Value) : laidMetH Tryd.prog [("middling/chain.checks", Rows.laid_middling_chain_checks)] ((laidWorld os).forCall (fun _ _ => 0) ⟨#[], args, []⟩).memory :=
  laidMetH_of_parts3 (fuel := 8) (laidMet_of_run' 8 (by kernel_rfl) (by kernel_rfl)) (by kernel_rfl) (by kernel_rfl)
theorem ok_true (W : World) {f : Func} (hr : f.resultTypes = #[4]) : ∀ (j : Nat) (t : TypeId) (r : Value), f.resultTypes[j]? = some t → ((Value.bool true).resultList f.resultTypes.size)[j]? = some r → Value.okWide Tryd.prog W .any 0 t r :=
  ok_one hr rfl (okWide_bool_mk Tryd.underlying4 _)

section
variable {H : Type} {enc : TypeId × Value → H}
/-- Arguments that read as they did. -/
theorem args_stay {P : Program} (hlo : laidOutB P = true) {W W' : World} (hb : Below W.heap.size W W') (ts : List TypeId) : ∀ (vs : List Value) (ds : List (DataW H)) (ps : List MemPlace), DataW.TrodAll enc P W 0 (fun _ => true) true ts vs ds ps →
    (∀ t ∈ ts, P.readableRec t = true ∧ t < P.types.size) → (∀ x ∈ ps, x.block < W.heap.size) → DataW.TrodAll enc P W' 0 (fun b => decide (b < W.heap.size)) true ts vs ds ps := by
  induction ts with
  | nil =>
    intro vs ds ps h _ _
    obtain ⟨rfl, rfl, rfl⟩ := trodAll_nil h
    exact trodAll_mk0
  | cons t ts ih =>
    intro vs ds ps h ht hl
    obtain ⟨v, vs, d, ds, p, q, rfl, rfl, rfl, h0, h1⟩ := trodAll_cons h
    have h2 := ht t (List.mem_cons_self ..)
    exact trodAll_cons_mk (Below.trod hlo h2.1 h2.2 h0 hb fun x hx => hl x (List.mem_append_left _ hx))
      (ih _ _ _ h1 (fun t' h' => ht t' (List.mem_cons_of_mem _ h')) fun x hx => hl x (List.mem_append_right _ hx))
theorem law_post {f : Func} {s : ChangeSpec} {W W' : World} {args : Array Value} {ds : List (DataW H)} {before : List MemPlace} (hv : s.vars = []) (hr : f.resultTypes = #[4])
    (hp : f.params.toList.all (fun t => Tryd.prog.readableRec t && decide (t < Tryd.prog.types.size)) = true) (hW : DataW.Whole enc Tryd.prog f.params.toList s.vars false W args.toList ds [] before)
    (hs : s.fn H ds = ⟨[.lit (.bool true)], ds, []⟩) (hb : Below W.heap.size W W') : s.post enc Tryd.prog f false true false false W args (.bool true) W' := by
  have hlt := hW.lt
  have hW' := hW
  rw [hv] at hW'
  obtain ⟨p, q, hA, hV, rfl, hz, hn⟩ := hW'
  obtain ⟨_, rfl⟩ := trodVars_none hV
  rw [List.append_nil] at hW hlt
  have he : s.fn H (ds ++ []) = ⟨[.lit (.bool true)], ds, []⟩ := by rw [List.append_nil]; exact hs
  refine ⟨ds, [], p, [], p, [], hW, ?_, ?_, ?_, World.keptBut_mono (fun x hx => ⟨hx, Or.inr (Or.inl hx)⟩) (hb.frame (· ∈ p)), fun h => by cases h⟩
  · rw [he, hr]
    exact trodAll_mk1 (shut_bool Tryd.underlying4 _)
  · rw [he]
    refine args_stay laid_ok hb _ _ _ _ hA (fun t ht => ?_) hlt
    have := List.all_eq_true.1 hp t ht
    simpa only [Bool.and_eq_true, decide_eq_true_eq] using this
  · rw [he, hv]
    exact rfl
end
end Go.Proofs.YtafdbgielmlihaaDoor
/- Four bytes that come into a law by value. -/
namespace Go.Proofs.YtafdbgielmlihaaDoor
open Go.RowKit Go.Shelf Go.ChangeShapes Go.WideShapes Go.ChangeAt
set_option maxRecDepth 100000

section
variable {H : Type} {enc : TypeId × Value → H} {w : World}
theorem coByte : Tryd.prog.cellsOf 5 = 1 := by kernel_rfl
theorem coFour : Tryd.prog.cellsOf 105 = 4 := by kernel_rfl
theorem byte_in {n : Nat} {cs : List Value} {z : DataW H × List MemPlace} (h : DataW.trod enc Tryd.prog w 0 (fun _ => true) true n 5 cs = some z) : ∃ x : Int, cs = [.int .u8 x] ∧ 0 ≤ x ∧ x ≤ 255 := by
  obtain ⟨x, hx, _, hw⟩ := DataW.trod_int Tryd.underlying5 h
  exact ⟨x, hx, bounds_u8 hw⟩
theorem open_four {r : Reach} {b0 : Nat} {v : Value} {d : DataW H} {p : List MemPlace} (hv : Value.okWide Tryd.prog w r b0 105 v) (h : DataW.Trod enc Tryd.prog w 0 (fun _ => true) true 105 v d p) :
    ∃ u0 u1 u2 u3 : Int, v = .agg #[.int .u8 u0, .int .u8 u1, .int .u8 u2, .int .u8 u3] ∧ (0 ≤ u0 ∧ u0 ≤ 255) ∧ (0 ≤ u1 ∧ u1 ≤ 255) ∧ (0 ≤ u2 ∧ u2 ≤ 255) ∧ (0 ≤ u3 ∧ u3 ≤ 255) := by
  simp only [Value.okWide, Tryd.underlying105] at hv
  obtain ⟨cs, rfl, hsz, -⟩ := hv
  obtain ⟨c0, c1, c2, c3, rfl⟩ : ∃ c0 c1 c2 c3, cs = #[c0, c1, c2, c3] := by
    obtain ⟨l⟩ := cs
    match l, hsz.trans coFour with
    | [c0, c1, c2, c3], _ => exact ⟨c0, c1, c2, c3, rfl⟩
  obtain ⟨fuel, hf⟩ := h
  obtain ⟨xs, m, _, _, _, hxs, hg⟩ := DataW.trod_array Tryd.underlying105 hf
  match xs, hxs with
  | [y0, y1, y2, y3], _ =>
    have g0 := hg 0 (by decide)
    have g1 := hg 1 (by decide)
    have g2 := hg 2 (by decide)
    have g3 := hg 3 (by decide)
    simp [coByte, Value.cells] at g0 g1 g2 g3
    obtain ⟨x0, hx0, b0⟩ := byte_in g0
    obtain ⟨x1, hx1, b1⟩ := byte_in g1
    obtain ⟨x2, hx2, b2⟩ := byte_in g2
    obtain ⟨x3, hx3, b3⟩ := byte_in g3
    simp at hx0 hx1 hx2 hx3
    exact ⟨x0, x1, x2, x3, by rw [hx0, hx1, hx2, hx3], b0, b1, b2, b3⟩
end
def noFour : Value := .agg #[.int .u8 0, .int .u8 0, .int .u8 0, .int .u8 0]
def noFourD {H : Type} : DataW H := .agg [.lit (.int .u8 0), .lit (.int .u8 0), .lit (.int .u8 0), .lit (.int .u8 0)]
end Go.Proofs.YtafdbgielmlihaaDoor
