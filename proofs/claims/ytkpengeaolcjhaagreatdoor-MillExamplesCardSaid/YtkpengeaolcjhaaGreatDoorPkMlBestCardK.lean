/- A bale that is handed over, opened: what its reading says of its memory; and the table of checks, as the row lists it. -/
import Derived.Test.YtkpengeaolcjhaaGreatDoorPkMlBestCardA
import Derived.Test.YtkpengeaolcjhaaGreatDoorCards
import Derived.Test.YtkpengeaolcjhaaGreatDoorTie
import Derived.WalkKit
import Derived.ProofKit
import Derived.OpenShut
import Derived.Carry
import Derived.Deep.Slices
import Derived.Deep.DeepHandedRow
import Derived.LaidMore
import Derived.LaidHandle
namespace Go.Proofs.YtkpengeaolcjhaaGreatDoor
open Go.RowKit Go.Shelf Go.ChangeShapes Go.WideShapes Go.ChangeAt
set_option maxRecDepth 100000

section
variable {H : Type} {enc : TypeId × Value → H} {P : Program} {w : World}
theorem at_lt {a : Addr} {v : Value} (h : w.cell? a = some v) : a.block < w.heap.size := by
  unfold World.cell? at h
  cases hb : w.heap[a.block]? with
  | none => simp [hb] at h
  | some o => exact (Array.getElem?_eq_some_iff.1 hb).1
/-- A slice whose elements are each the cells of an x: a list of these. -/
theorem sl_of_trod {α : Type} {enc' : α → List Value} {sz : Nat} {t e : TypeId} {fuel : Nat} {v : Value} {y : DataW H × List MemPlace} (ht : P.underlying t = some (.slice e)) (hc : P.cellsOf e = sz) (hsz : 0 < sz) (henc : ∀ x, (enc' x).length = sz)
    (hel : ∀ (n : Nat) (cs : List Value) (z : DataW H × List MemPlace), DataW.trod enc P w 0 (fun _ => true) true n e cs = some z → cs.length = sz → ∃ x : α, cs = enc' x)
    (h : DataW.trod enc P w 0 (fun _ => true) true fuel t [v] = some y) : ∃ l : List α, Sl enc' sz w v l := by
  rcases Go.Deep.open_slice ht h with ⟨hv, _⟩ | ⟨a, len, cap, m, n, D, Pl, hv, _, hl, hm, hmm, _, hx⟩
  · obtain rfl : v = .slice none 0 0 := by simpa using hv
    exact ⟨[], Sl.nil w⟩
  · obtain rfl : v = .slice (some a) len cap := by simpa using hv
    simp at hmm
    subst hmm
    have each : ∀ i, i < len → ∃ x : α, w.cells? 0 (a.add (i * sz)) sz = some (enc' x) := by
      intro i hi
      obtain ⟨cs', h1, h2⟩ := hx i (by omega)
      rw [hc] at h1
      obtain ⟨x, rfl⟩ := hel n cs' _ h2 (World.cells?_some h1).2.1
      exact ⟨x, h1⟩
    classical
    refine ⟨List.ofFn fun i : Fin len => Classical.choose (each i i.2), some a, m, by simp, by simpa using hl, hm, fun h0 => ?_⟩
    have hlen : 0 < len := by simpa using h0
    have cell : ∀ i (hi : i < len) j u, (enc' (Classical.choose (each i hi)))[j]? = some u → w.cell? ((a.add (i * sz)).add j) = some u := by
      intro i hi j u hu
      have hs := World.cells?_some (Classical.choose_spec (each i hi))
      rw [← hu]
      exact hs.2.2 j (by have := (List.getElem?_eq_some_iff.1 hu).1; rw [henc] at this; exact this)
    have c0 : ∃ u, (enc' (Classical.choose (each 0 hlen)))[0]? = some u := ⟨_, List.getElem?_eq_getElem (by rw [henc]; exact hsz)⟩
    obtain ⟨u, hu⟩ := c0
    have c0 := cell 0 hlen 0 u hu
    obtain ⟨b, off, spot⟩ := a
    have hspot : spot = none := by simpa [Addr.add] using World.cell?_spot c0
    subst hspot
    refine ⟨b, off, rfl, by simpa [Addr.add] using at_lt c0, fun k x hk j u hu => ?_⟩
    obtain ⟨hk', rfl⟩ := List.getElem?_eq_some_iff.1 hk
    simp at hk'
    rw [List.getElem_ofFn] at hu
    have := cell k hk' j u hu
    rw [Addr.add_lit, Addr.add_lit] at this
    exact this
end

section
variable {H : Type} {enc : TypeId × Value → H} {w : World}
theorem co3 : Tryz.prog.cellsOf 3 = 1 := by kernel_rfl
theorem co23 : Tryz.prog.cellsOf 57 = 2 := by kernel_rfl
theorem co24 : Tryz.prog.cellsOf 58 = 1 := by kernel_rfl
theorem co25 : Tryz.prog.cellsOf 59 = 1 := by kernel_rfl
theorem co63 : Tryz.prog.cellsOf 134 = 4 := by kernel_rfl
theorem co65 : Tryz.prog.cellsOf 186 = 4 := by kernel_rfl
theorem int_of {n : Nat} {cs : List Value} {z : DataW H × List MemPlace} (h : DataW.trod enc Tryz.prog w 0 (fun _ => true) true n 3 cs = some z) : ∃ x : Int, cs = [.int .i64 x] := by
  obtain ⟨x, hx, _⟩ := DataW.trod_int Tryz.underlying3 h
  exact ⟨x, hx⟩
theorem span_of {n : Nat} {cs : List Value} {z : DataW H × List MemPlace} (h : DataW.trod enc Tryz.prog w 0 (fun _ => true) true n 57 cs = some z) (hl : cs.length = 2) : ∃ x : Span, cs = [.int .i64 x.lo, .int .i64 x.hi] := by
  obtain ⟨y0, y1, m, _, _, h0, h1⟩ := trod_struct2 Tryz.underlying57 h
  match cs, hl with
  | [c0, c1], _ =>
    simp [co3] at h0 h1
    obtain ⟨x0, hx0⟩ := int_of h0
    obtain ⟨x1, hx1⟩ := int_of h1
    simp at hx0 hx1
    exact ⟨⟨x0, x1⟩, by rw [hx0, hx1]⟩
theorem draw_of {n : Nat} {cs : List Value} {z : DataW H × List MemPlace} (h : DataW.trod enc Tryz.prog w 0 (fun _ => true) true n 134 cs = some z) (hl : cs.length = 4) : ∃ x : Draw, cs = encD x := by
  obtain ⟨xs, m, _, _, _, hxs, hf⟩ := DataW.trod_struct Tryz.underlying134 h
  match cs, hl, xs, hxs with
  | [c0, c1, c2, c3], _, [y0, y1, y2], _ =>
    have g0 := hf 0 _ rfl
    have g1 := hf 1 _ rfl
    have g2 := hf 2 _ rfl
    simp [co3, co23] at g0 g1 g2
    obtain ⟨x0, hx0⟩ := int_of g0
    obtain ⟨x1, hx1⟩ := int_of g1
    obtain ⟨x2, hx2⟩ := span_of g2 rfl
    simp at hx0 hx1 hx2
    exact ⟨⟨x0, x1, x2⟩, by rw [hx0, hx1, hx2.1, hx2.2]⟩
theorem weigh_of {n : Nat} {cs : List Value} {z : DataW H × List MemPlace} (h : DataW.trod enc Tryz.prog w 0 (fun _ => true) true n 186 cs = some z) (hl : cs.length = 4) : ∃ x : Weigh, cs = encW x := by
  obtain ⟨xs, m, _, _, _, hxs, hf⟩ := DataW.trod_struct Tryz.underlying186 h
  match cs, hl, xs, hxs with
  | [c0, c1, c2, c3], _, [y0, y1, y2], _ =>
    have g0 := hf 0 _ rfl
    have g1 := hf 1 _ rfl
    have g2 := hf 2 _ rfl
    simp [co3, co23] at g0 g1 g2
    obtain ⟨x0, hx0⟩ := int_of g0
    obtain ⟨x1, hx1⟩ := int_of g1
    obtain ⟨x2, hx2⟩ := span_of g2 rfl
    simp at hx0 hx1 hx2
    exact ⟨⟨x0, x1, x2⟩, by rw [hx0, hx1, hx2.1, hx2.2]⟩
end

/-! The table. -/
theorem own : ownKnob Tryz.prog.godebug = none := by kernel_rfl
theorem gTab : Tryz.prog.globalNamed "middling/core.checks" = some 1 := by kernel_rfl
theorem tTab : (Tryz.prog.globals[1]?).map (·.type) = some 226 := by kernel_rfl
theorem co116 : Tryz.prog.cellsOf 226 = 4 := by kernel_rfl
theorem laid_ok : laidOutB Tryz.prog = true := by kernel_rfl
theorem co115 : Tryz.prog.cellsOf 225 = 1 := by kernel_rfl
theorem co28 : Tryz.prog.cellsOf 91 = 1 := by kernel_rfl
theorem row_of {W : World} {n : Nat} {c : Value} {y : DataW (List UInt8) × List MemPlace} {b : UInt8} {r : List UInt8} {f0 : FuncId} (hone : ((List.range Tryz.prog.funcs.size).filter fun f => (Tryz.prog.funcs[f]?).any (·.name.toUTF8.data.toList == b :: r)) = [f0])
    (hy : y.1 = .agg [.held (b :: r)]) (h : DataW.trod (funcToken Tryz.prog) Tryz.prog W 0 (fun _ => true) true n 225 [c] = some y) : c = .func (.func f0) #[] #[] := by
  obtain ⟨z, m, rfl, _, hz⟩ := trod_struct1 Tryz.underlying225 h
  simp at hy
  simp [co28] at hz
  obtain ⟨z1, z2⟩ := z
  simp at hy
  subst hy
  exact Go.func_of_trod Tryz.underlying91 hone hz
theorem tab_ofL {L : List (String × DataW Unit)} (hm : ("middling/core.checks", Rows.laid_middling_core_checks) ∈ L) {W : World} (h : laidMetH Tryz.prog L W) : Tab W := by
  obtain ⟨g, t, cs, fuel, p, hg, ht, hv, hd⟩ := h.funcs hm
  obtain rfl := Option.some.inj (gTab.symm.trans hg)
  obtain rfl := Option.some.inj (tTab.symm.trans ht)
  have hd' : DataW.trod (funcToken Tryz.prog) Tryz.prog W 0 (fun _ => true) true fuel 226 cs.toList = some (.agg [.agg [.held [109, 105, 100, 100, 108, 105, 110, 103, 47, 99, 111, 114, 101, 46, 99, 104, 101, 99, 107, 115, 36, 49]], .agg [.held [109, 105, 100, 100, 108, 105, 110, 103, 47, 99, 111, 114, 101, 46, 99, 104, 101, 99, 107, 115, 36, 50]], .agg [.held [109, 105, 100, 100, 108, 105, 110, 103, 47, 99, 111, 114, 101, 46, 99, 104, 101, 99, 107, 115, 36, 51]], .agg [.held [109, 105, 100, 100, 108, 105, 110, 103, 47, 99, 111, 114, 101, 46, 99, 104, 101, 99, 107, 115, 36, 52]]], p) := hd
  obtain ⟨xs, m, _, hx, hl, hxs, hi⟩ := DataW.trod_array Tryz.underlying226 hd'
  have h4 : cs.size = 4 := by rw [co116] at hl; simpa using hl
  obtain ⟨c0, c1, c2, c3, rfl⟩ : ∃ c0 c1 c2 c3, cs = #[c0, c1, c2, c3] := by
    obtain ⟨l⟩ := cs
    match l, h4 with
    | [c0, c1, c2, c3], _ => exact ⟨c0, c1, c2, c3, rfl⟩
  match xs, hxs with
  | [y0, y1, y2, y3], _ =>
    have g0 := hi 0 (by decide)
    have g1 := hi 1 (by decide)
    have g2 := hi 2 (by decide)
    have g3 := hi 3 (by decide)
    simp [co115] at g0 g1 g2 g3
    simp only [List.map_cons, List.map_nil, Prod.mk.injEq, DataW.agg.injEq, List.cons.injEq, and_true] at hx
    obtain ⟨⟨e0, e1, e2, e3⟩, _⟩ := hx
    obtain rfl := row_of (f0 := 197) (by kernel_rfl) e0.symm g0
    obtain rfl := row_of (f0 := 199) (by kernel_rfl) e1.symm g1
    obtain rfl := row_of (f0 := 203) (by kernel_rfl) e2.symm g2
    obtain rfl := row_of (f0 := 206) (by kernel_rfl) e3.symm g3
    have k0 : W.cell? ⟨1, 0, none⟩ = some (.func (.func 197) #[] #[]) := World.var?_cell hg hv 0
    exact ⟨at_lt k0, k0, World.var?_cell hg hv 1, World.var?_cell hg hv 2, World.var?_cell hg hv 3⟩
/-- A world for the witness: the settled one, the table holding what its initialiser lays. -/
noncomputable def laidWorld (os : Os) : World :=
  { World.holding Tryz.prog os ⟨#[], #[], []⟩ with heap := (World.holding Tryz.prog os ⟨#[], #[], []⟩).heap.modify 1 fun
      | .cells _ t frozen => .cells #[.func (.func 197) #[] #[], .func (.func 199) #[] #[], .func (.func 203) #[] #[], .func (.func 206) #[] #[]] t frozen
      | o => o }
end Go.Proofs.YtkpengeaolcjhaaGreatDoor
/- What each law's proof ends with: it returned true, and below the heap's old size nothing has turned: so the row's answer holds. -/
namespace Go.Proofs.YtkpengeaolcjhaaGreatDoor
open Go.RowKit Go.Shelf Go.ChangeShapes Go.WideShapes Go.ChangeAt
set_option maxRecDepth 100000

section
variable {H : Type} {enc : TypeId × Value → H}
/-- Arguments that read as they did. -/
theorem args_stay {P : Program} (hlo : laidOutB P = true) {W W' : World} (hb : Below W.heap.size W W') (ts : List TypeId) : ∀ (vs : List Value) (ds : List (DataW H)) (ps : List MemPlace), DataW.TrodAll enc P W 0 (fun _ => true) true ts vs ds ps →
    (∀ t ∈ ts, P.readableRec t = true ∧ t < P.types.size) → (∀ x ∈ ps, x.block < W.heap.size) → DataW.TrodAll enc P W' 0 (fun b => decide (b < W.heap.size)) true ts vs ds ps := by
  induction ts with
  | nil =>
    intro vs ds ps h _ _
    obtain ⟨rfl, rfl, rfl⟩ := trodAll_nil h
    exact trodAll_mk0
  | cons t ts ih =>
    intro vs ds ps h ht hl
    obtain ⟨v, vs, d, ds, p, q, rfl, rfl, rfl, h0, h1⟩ := trodAll_cons h
    have h2 := ht t (List.mem_cons_self ..)
    exact trodAll_cons_mk (Below.trod hlo h2.1 h2.2 h0 hb fun x hx => hl x (List.mem_append_left _ hx))
      (ih _ _ _ h1 (fun t' h' => ht t' (List.mem_cons_of_mem _ h')) fun x hx => hl x (List.mem_append_right _ hx))
theorem law_post {f : Func} {s : ChangeSpec} {W W' : World} {args : Array Value} {ds : List (DataW H)} {before : List MemPlace} (hv : s.vars = []) (hr : f.resultTypes = #[4])
    (hp : f.params.toList.all (fun t => Tryz.prog.readableRec t && decide (t < Tryz.prog.types.size)) = true) (hW : DataW.Whole enc Tryz.prog f.params.toList s.vars false W args.toList ds [] before)
    (hs : s.fn H ds = ⟨[.lit (.bool true)], ds, []⟩) (hb : Below W.heap.size W W') : s.post enc Tryz.prog f false true false false W args (.bool true) W' := by
  have hlt := hW.lt
  have hW' := hW
  rw [hv] at hW'
  obtain ⟨p, q, hA, hV, rfl, hz, hn⟩ := hW'
  obtain ⟨_, rfl⟩ := trodVars_none hV
  rw [List.append_nil] at hW hlt
  have he : s.fn H (ds ++ []) = ⟨[.lit (.bool true)], ds, []⟩ := by rw [List.append_nil]; exact hs
  refine ⟨ds, [], p, [], p, [], hW, ?_, ?_, ?_, World.keptBut_mono (fun x hx => ⟨hx, Or.inr (Or.inl hx)⟩) (hb.frame (· ∈ p)), fun h => by cases h⟩
  · rw [he, hr]
    exact trodAll_mk1 (shut_bool Tryz.underlying4 _)
  · rw [he]
    refine args_stay laid_ok hb _ _ _ _ hA (fun t ht => ?_) hlt
    have := List.all_eq_true.1 hp t ht
    simpa only [Bool.and_eq_true, decide_eq_true_eq] using this
  · rw [he, hv]
    exact rfl
end
end Go.Proofs.YtkpengeaolcjhaaGreatDoor
