/- The plain law of CoreAsk: the draw that is told leaves as few kinds as any. -/
import Derived.Test.YtdlipbobfgdleaaDoorPkKindOCardA
import Derived.Test.YtdlipbobfgdleaaDoorPkTruthCardT
import Derived.Test.YtdlipbobfgdleaaDoorPkKindOCardD
import Derived.Test.YtdlipbobfgdleaaDoorPkWeightCardB
namespace Go.Proofs.YtdlipbobfgdleaaDoor
open Go.RowKit Go.Shelf Go.Lib
set_option maxRecDepth 100000
set_option linter.unusedSimpArgs false

/-- The spans of a bale, one layer pinned. -/
def ownF (b : Bale) (j : Nat) : Span := spanAt b.draws (j : Int)
def pinF (b : Bale) (i : Nat) (n : Int) (j : Nat) : Span := if j = i then ⟨n, n⟩ else ownF b j
theorem own_fit {b : Bale} (hv : valid b = true) (hg : grown (spans b) = true) : FitS (ownF b) b.layers.toNat := by
  intro i hi
  have hm := List.mem_of_getElem? (spans_get hi)
  have h1 := spans_bd hv _ hm
  have h2 := grown_at hg _ hm
  unfold ownF
  omega
theorem pin_fit {b : Bale} (hv : valid b = true) (hg : grown (spans b) = true) {i : Nat} {n : Int} (h1 : 1 ≤ n) (h9 : n ≤ 9) : FitS (pinF b i n) b.layers.toNat := by
  intro j hj
  unfold pinF
  split
  · exact ⟨h1, Int.le_refl _, h9⟩
  · exact own_fit hv hg j hj
theorem map_own (b : Bale) : (List.range b.layers.toNat).map (ownF b) = spans b := rfl
theorem map_pin (b : Bale) {i : Nat} (hi : i < b.layers.toNat) (n : Int) : (List.range b.layers.toNat).map (pinF b i n) = (spans b).set i ⟨n, n⟩ := by
  apply List.ext_getElem?
  intro j
  rw [List.getElem?_map, List.getElem?_set]
  by_cases hj : j < b.layers.toNat
  · rw [List.getElem?_range hj, Option.map_some]
    unfold pinF
    by_cases e : i = j
    · subst e; rw [if_pos rfl, if_pos rfl, if_pos (by rw [spans_len]; exact hj)]
    · rw [if_neg (fun h => e h.symm), if_neg e, spans_get hj]; rfl
  · rw [List.getElem?_eq_none (by rw [List.length_range]; omega), if_neg (by omega), List.getElem?_eq_none (by rw [spans_len]; omega)]; rfl
theorem lay_fine {b : Bale} {f : Nat → Span} (hv : valid b = true) (ho : okB b = true) (hf : FitS f b.layers.toNat) : valid (layB b f) = true ∧ okB (layB b f) = true := by
  obtain ⟨w1, w2⟩ := weighs_ok hv
  refine ⟨lay_valid w1 w2 hf, lay_ok ?_ hf⟩
  unfold okB at ho
  simp only [Bool.and_eq_true, Bool.not_eq_true'] at ho
  cases h : dries b with
  | nil => rw [h] at ho; simp at ho
  | cons => simp
theorem mayN_num (s : S4) : mayN s 4 = (s.num : Int) := by
  obtain ⟨a, b, c, d⟩ := s
  cases a <;> cases b <;> cases c <;> cases d <;> decide
theorem num_pos {T : List (List Int)} (h : T ≠ []) : 1 ≤ (kindsOf T).num := by
  obtain ⟨t, ht⟩ := List.exists_mem_of_ne_nil _ h
  obtain ⟨h1, h2, h3, h4⟩ := kindsOf_iff T
  have hb := kindL_bd t
  unfold S4.num
  rcases four hb.1 hb.2 with e | e | e | e
  · rw [h1.2 ⟨t, ht, e⟩]; simp; omega
  · rw [h2.2 ⟨t, ht, e⟩]; simp; omega
  · rw [h3.2 ⟨t, ht, e⟩]; simp; omega
  · rw [h4.2 ⟨t, ht, e⟩]; simp
/-- How many kinds a bale can be of. -/
theorem kinds_lay {b : Bale} {f : Nat → Span} (hf : FitS f b.layers.toNat) : kindS (layB b f) = kindsOf (truthsL (((List.range b.layers.toNat).map f).zip [0, 0, 0, 0, 0])) := by
  unfold kindS; rw [lay_spans hf]
theorem kinds_pin {b : Bale} (hv : valid b = true) (ho : okB b = true) {i : Nat} (hi : i < b.layers.toNat) {n : Int} (h1 : (ownF b i).lo ≤ n) (h2 : n ≤ (ownF b i).hi) : mayN (kindS (layB b (pinF b i n))) 4 = numK (spans b) i n := by
  have hfi := own_fit hv (ok_grown ho) i hi
  rw [mayN_num, kinds_lay (pin_fit hv (ok_grown ho) (by omega) (by omega)), map_pin b hi]
  unfold numK
  rw [pin_eq (spans5 hv).1 (spans_get hi) h1 h2 (by omega)]
theorem numK_pos {b : Bale} (hv : valid b = true) (ho : okB b = true) {i : Nat} (hi : i < b.layers.toNat) {n : Int} (h1 : (ownF b i).lo ≤ n) (h2 : n ≤ (ownF b i).hi) : 1 ≤ numK (spans b) i n := by
  have hfi := own_fit hv (ok_grown ho) i hi
  unfold numK
  rw [← pin_eq (spans5 hv).1 (spans_get hi) h1 h2 (by omega)]
  have hl := (spans5 hv).1
  have := num_pos (truths_ne (sp := (spans b).set i ⟨n, n⟩) (by rw [List.length_set]; exact hl) (fun x hx => by
    rcases List.mem_or_eq_of_mem_set hx with hx | rfl
    · exact grown_at (ok_grown ho) x hx
    · exact Int.le_refl _))
  omega
theorem wst_ge (f : Int → Int) (lo : Int) : ∀ (k i : Nat), i < k → f (lo + (i : Int)) ≤ wst f lo k
  | 0, i, h => absurd h (by omega)
  | k + 1, i, h => by
    unfold wst
    by_cases e : i = k
    · subst e; omega
    · have := wst_ge f lo k i (by omega); omega
/-- The most kinds that are left where a layer is drawn. -/
def mostN (b : Bale) (i k : Nat) : Int := wst (numK (spans b) i) (ownF b i).lo k
theorem layN_most {b : Bale} {i : Nat} (hi : i < b.layers.toNat) : layN (numK (spans b)) (spans b) i = mostN b i ((ownF b i).hi - (ownF b i).lo + 1).toNat := by
  unfold layN; rw [spans_get hi]; rfl
theorem most_bd (b : Bale) (i k : Nat) : 0 ≤ mostN b i k ∧ mostN b i k ≤ 4 := wst_bd (numK_bd (spans b) i) _ _
theorem most_succ (b : Bale) (i k : Nat) : mostN b i (k + 1) = max (mostN b i k) (numK (spans b) i ((ownF b i).lo + (k : Int))) := rfl
theorem most_ge {b : Bale} {i : Nat} {n : Int} (h1 : (ownF b i).lo ≤ n) (h2 : n ≤ (ownF b i).hi) : numK (spans b) i n ≤ mostN b i ((ownF b i).hi - (ownF b i).lo + 1).toNat := by
  have := wst_ge (numK (spans b) i) (ownF b i).lo ((ownF b i).hi - (ownF b i).lo + 1).toNat (n - (ownF b i).lo).toNat (by omega)
  rwa [show (ownF b i).lo + (((n - (ownF b i).lo).toNat : Nat) : Int) = n by omega] at this
theorem askO_law {b : Bale} (hv : valid b = true) (ho : okB b = true) : ∃ (a : Nat) (L : Int), askB b = ((a : Int), L) ∧ a < b.layers.toNat ∧ 1 ≤ L ∧ L ≤ 4 ∧
    L = mostN b a ((ownF b a).hi - (ownF b a).lo + 1).toNat ∧ ∀ i, i < b.layers.toNat → L ≤ mostN b i ((ownF b i).hi - (ownF b i).lo + 1).toNat ∧ (i < a → L < mostN b i ((ownF b i).hi - (ownF b i).lo + 1).toNat) := by
  obtain ⟨s1, s2, s3⟩ := spans5 hv
  obtain ⟨a, h1, h2, h3, h4⟩ := ask_spec (numK (spans b)) (spans b) 5 (fun j => by have := layN_bd (spans b) j; omega) (spans b).length s2
  rw [s3] at h1 h3
  refine ⟨a, _, ?_, h1, ?_, ?_, layN_most h1, fun i hi => ⟨?_, fun hia => ?_⟩⟩
  · unfold askB
    rw [ask_ok hv ho, if_pos rfl]
    unfold askS
    exact h2
  · have hf := own_fit hv (ok_grown ho) a h1
    have p := numK_pos hv ho h1 (Int.le_refl _) hf.2.1
    have q := most_ge (b := b) (i := a) (Int.le_refl _) hf.2.1
    rw [layN_most h1]
    omega
  · exact layN_bd (spans b) a
  · rw [← layN_most hi]; exact h3 i hi
  · rw [← layN_most hi]; exact h4 i hia
end Go.Proofs.YtdlipbobfgdleaaDoor
/- middlinglaw03.kinds: how many kinds a bale can be of. -/
namespace Go.Proofs.YtdlipbobfgdleaaDoor
open Go.RowKit Go.Shelf Go.Lib
set_option maxRecDepth 100000
set_option linter.unusedSimpArgs false

set_option maxHeartbeats 4000000 in
theorem kindsN_any (b : Bale) (hv : valid b = true) (ho : okB b = true) (dv wv : Value) (w : World) (hT : Tab w) (hd : SlD w dv b.draws) (hw : SlW w wv b.weighs) :
    Calls Tryd.prog 61 #[valB b dv wv] w fun e w' => e = .returned (.int .i64 (mayN (kindS b) 4)) ∧ Ext w w' := by
  have HT := Lib.hid hT
  have HD := Lib.hid hd
  have HW := Lib.hid hw
  have HV := Lib.hid hv
  have HO := Lib.hid ho
  obtain ⟨A, n, cp, rfl, hn, hlc, hcm⟩ := hd.form
  obtain ⟨A2, n2, cp2, rfl, hn2, hlc2, hcm2⟩ := hw.form
  clear hd hw hT hv ho
  go_enter Tryd.func61, Tryd.ntmps61
  go_wp2
  go_loopg [3, 4] 4 (fun gg s3 s4 wr => ∃ kk : Nat, kk ≤ 4 ∧ 4 - kk ≤ gg ∧ s4 = .int .i64 ((kk : Int) + 1) ∧ s3 = .int .i64 (mayN (kindS b) kk) ∧ Aside (SB b w w.heap.size (.slice A n cp) (.slice A2 n2 cp2) wr))
  case atStart => exact ⟨0, by omega, by omega, rfl, rfl, ⟨Ext.al _ _, Blk.new _ _ _, HT.out.ext (Ext.al _ _), HD.out.ext (Ext.al _ _), HW.out.ext (Ext.al _ _)⟩⟩
  case round =>
    obtain ⟨kk, hkk, hg, rfl, rfl, SR⟩ := hrel
    by_cases hlt : kk < 4
    · have hltz : (kk : Int) + 1 ≤ 4 := by omega
      obtain ⟨x0, x1, x2, x3, x4, x5, xl⟩ := SR.out.cells
      go_wp2_with fail
      clear x0 x1 x2 x3 x4 x5 xl
      refine (kindC_any b ((kk : Int) + 1) _ _ _ SR.out.t SR.out.d SR.out.w).mono ?_
      rintro e w3 ⟨rfl, hE⟩
      have S3 := Lib.hid (SR.out.ext hE); clear hE SR
      obtain ⟨k1, k2⟩ := kindB_ok HV.out HO.out (k := (kk : Int) + 1) (by omega) (by omega)
      rw [k1, k2, ask_ok HV.out HO.out]
      clear k1 k2
      have HM1 := Lib.hid (show mayN (kindS b) (kk + 1) = mayN (kindS b) kk + (if kindK (kindS b) ((kk : Int) + 1) = 0 then 0 else 1) from rfl)
      have hb3 := kindK_bd (kindS b) ((kk : Int) + 1)
      generalize kindK (kindS b) ((kk : Int) + 1) = v at HM1 hb3
      have hmb := mayN_bd (kindS b) kk
      generalize mayN (kindS b) kk = my at HM1 hmb
      obtain ⟨hmb0, hmb1⟩ := hmb
      rcases hb3 with rfl | rfl | rfl
      all_goals
        go_wp2
        go_roundg (4 - (kk + 1))
        case measure => omega
        case rel => exact ⟨kk + 1, by omega, by omega, by simp <;> omega, by rw [HM1.out]; simp, S3.out⟩
    · obtain rfl : kk = 4 := by omega
      go_wp2
      go_ret
      exact ⟨rfl, SR.out.e⟩
end Go.Proofs.YtdlipbobfgdleaaDoor
/- A bale with one draw of each layer: built, twinned, one layer pinned. -/
namespace Go.Proofs.YtdlipbobfgdleaaDoor
open Go.RowKit Go.Shelf Go.Lib
set_option maxRecDepth 100000
set_option linter.unusedSimpArgs false

theorem set_pin (b : Bale) {n a : Nat} (m : Int) (h : a < n) : (layD (ownF b) n).set a ⟨(a : Int) + 1, (a : Int), ⟨m, m⟩⟩ = layD (pinF b a m) n := by
  apply List.ext_getElem?
  intro j
  rw [List.getElem?_set]
  by_cases hj : j < n
  · rw [layD_at hj]
    by_cases e : a = j
    · subst e
      rw [if_pos rfl, if_pos (by rw [layD_len]; exact h), layD_at hj]
      unfold pinF; rw [if_pos rfl]
    · rw [if_neg e, layD_at hj]
      unfold pinF; rw [if_neg (fun h => e h.symm)]
  · rw [if_neg (by omega), List.getElem?_eq_none (by rw [layD_len]; omega), List.getElem?_eq_none (by rw [layD_len]; omega)]
/-- A twin in its box, its weighings beside. -/
structure CU (w1 : World) (p : Nat) (x0 x1 x2 x3 wv : Value) (n g c : Nat) (L : List Draw) (base : Nat) (WL : List Weigh) (V : World) : Prop where
  ct : CT w1 p x0 x1 x2 x3 wv n g c L V
  row : ∃ cs, Blk V g 63 cs
  w : Own encW 65 4 V base wv WL
section
variable {w1 : World} {p : Nat} {x0 x1 x2 x3 wv : Value} {n g c : Nat} {L : List Draw} {base : Nat} {WL : List Weigh} {V V' : World}
theorem CU.ext (h : CU w1 p x0 x1 x2 x3 wv n g c L base WL V) (hn : 0 < n) (k : Ext V V') : CU w1 p x0 x1 x2 x3 wv n g c L base WL V' :=
  ⟨h.ct.ext hn k, h.row.imp fun _ hb => hb.ext k, h.w.ext k⟩
theorem CU.put {i : Nat} {x : Draw} {s : Span} (h : CU w1 p x0 x1 x2 x3 wv n g c L base WL V) (hi : i < n) (hx : L[i]? = some x) :
    CU w1 p x0 x1 x2 x3 wv n g c (L.set i ⟨x.number, x.layer, s⟩) base WL ((V.setCell ⟨g, i * 4 + 2, none⟩ (.int .i64 s.lo)).setCell ⟨g, i * 4 + 3, none⟩ (.int .i64 s.hi)) := by
  obtain ⟨cs, hB⟩ := h.row
  refine ⟨h.ct.put hi hx, ⟨_, (hB.set_ _ _).set_ _ _⟩, ?_⟩
  exact own_off h.w hB (by decide) (grown_set (grown_set (World.grownBy.refl _ _) (p := ⟨g, i * 4 + 2, none⟩) (.inl rfl) _) (p := ⟨g, i * 4 + 3, none⟩) (.inl rfl) _)
end
theorem twin_box {bt : Bale} {w9 wt : World} {v : Value} {n : Nat} (h : TwinV bt w9.heap.size v wt) (hE : Ext w9 wt) (hn : bt.draws.length = n) (h0 : 0 < n) :
    ∃ gb cap A2 n2 cp2, v = valB bt (.slice (some ⟨gb, 0, none⟩) n cap) (.slice A2 n2 cp2) ∧ CU w9 wt.heap.size (.int .i64 bt.id) (.int .i64 bt.layers) (.int .i64 bt.dry.lo) (.int .i64 bt.dry.hi) (.slice A2 n2 cp2) n gb cap bt.draws w9.heap.size bt.weighs
      (wt.alloc (.cells #[.int .i64 bt.id, .int .i64 bt.layers, .int .i64 bt.dry.lo, .int .i64 bt.dry.hi, .slice (some ⟨gb, 0, none⟩) n cap, .slice A2 n2 cp2] 27)) := by
  obtain ⟨dv, wv, rfl, o1, o2⟩ := h
  have hsl : SlD wt dv bt.draws := o1.sl (fun _ => rfl)
  have hsw : SlW wt wv bt.weighs := o2.sl (fun _ => rfl)
  obtain ⟨m, hm⟩ : ∃ m, n = m + 1 := ⟨n - 1, by omega⟩
  unfold Own at o1
  rw [hn, hm] at o1
  obtain ⟨gb, cap, rfl, hgb, row, hrow⟩ := own_succ2 o1
  rw [← hm] at hsl ⊢
  obtain ⟨A2, n2, cp2, rfl, hn2, -, -⟩ := hsw.form
  have hgl : gb < wt.heap.size := (Array.getElem?_eq_some_iff.1 hrow).1
  have hEA := Ext.al wt (.cells #[.int .i64 bt.id, .int .i64 bt.layers, .int .i64 bt.dry.lo, .int .i64 bt.dry.hi, .slice (some ⟨gb, 0, none⟩) n cap, .slice A2 n2 cp2] 27)
  exact ⟨gb, cap, A2, n2, cp2, rfl, ⟨⟨hE.trans hEA, Blk.new _ _ _, hE.size, hgb, by omega, fun j => (hEA.cells.2 gb j hgl).trans (by simp [World.frozen?, hrow]), hsl.ext hEA⟩, ⟨row, Blk.ext (show Blk wt gb 63 row from hrow) hEA⟩, o2.ext hEA⟩⟩
/-- The bale that is being built, and a span in its box. -/
structure CQ {α : Type} (enc : α → List Value) (e : TypeId) (sz : Nat) (w0 : World) (p : Nat) (x0 x1 x2 x3 wv : Value) (L : List Draw) (dv lv : Value) (gl : List α) (q : Nat) (y0 y1 : Value) (V : World) : Prop where
  cb : CB enc e sz w0 p x0 x1 x2 x3 wv L dv lv gl V
  blk : Blk V q 23 #[y0, y1]
section
variable {α : Type} {enc : α → List Value} {e : TypeId} {sz : Nat} {w0 : World} {p : Nat} {x0 x1 x2 x3 wv : Value} {L : List Draw} {dv lv : Value} {gl : List α} {q : Nat} {y0 y1 : Value} {V V' : World}
theorem CQ.ext (h : CQ enc e sz w0 p x0 x1 x2 x3 wv L dv lv gl q y0 y1 V) (k : Ext V V') : CQ enc e sz w0 p x0 x1 x2 x3 wv L dv lv gl q y0 y1 V' := ⟨h.cb.ext k, h.blk.ext k⟩
theorem CQ.old {y : Draw} (h : CQ enc e sz w0 p x0 x1 x2 x3 wv L dv lv gl q y0 y1 V) (hR : RF encD 4 63 (p + 1) (L ++ [y]) y V V') (hB : Below (p + 1) V V') (hO : OffT 63 V V') (h2 : e ≠ 63) : CQ enc e sz w0 p x0 x1 x2 x3 wv L dv lv gl q y0 y1 V' :=
  ⟨h.cb.old hR hB hO h2, hO q 23 _ (by decide) h.blk⟩
theorem Own.notIn {base : Nat} {W : World} (h : Own enc e sz W base lv gl) (hq : W.heap.size ≤ q) : some q ≠ lv.ownBlock := fun hk => by
  have := (World.ownsRow.lt h q hk.symm).2
  omega
end
/-- The law's own bale in a box, and the bare one beside it, built. -/
theorem SB.bare {b : Bale} {w0 : World} {p : Nat} {A A2 : Option Addr} {n c n2 c2 : Nat} {α : Type} {enc : α → List Value} {e : TypeId} {sz : Nat} {lv : Value} {gl : List α} {L : List Draw} {V : World} (h : CB enc e sz w0 p (.int .i64 b.id) (.int .i64 b.layers) (.int .i64 b.dry.lo) (.int .i64 b.dry.hi) (.slice A2 n2 c2) L (.slice A n c) lv gl V)
    (hT : Tab w0) (hW : SlW w0 (.slice A2 n2 c2) b.weighs) {f : Nat → Span} (hL : L = layD f b.layers.toNat) : SB (layB b f) w0 p (.slice A n c) (.slice A2 n2 c2) V :=
  ⟨h.ex, h.blk, hT.ext h.ex, by subst hL; exact Own.sl (enc := encD) (sz := 4) (fun _ => rfl) h.d.1, hW.ext h.ex⟩
end Go.Proofs.YtdlipbobfgdleaaDoor
/- middlinglaw03.CoreAsk: the walk. -/
namespace Go.Proofs.YtdlipbobfgdleaaDoor
open Go.RowKit Go.Shelf Go.Lib
set_option maxRecDepth 100000
set_option linter.unusedSimpArgs false

theorem own_succS (b : Bale) (k : Nat) : spansTo b k ++ [ownF b k] = spansTo b (k + 1) := (spansTo_succ b k).symm

/-- The call of kinds for a twin with one layer pinned. -/
theorem kinds_twin {b : Bale} {i nl : Nat} {m : Int} (hv : valid b = true) (ho : okB b = true) (hnl : b.layers.toNat = nl) (hi : i < nl) (h1 : (ownF b i).lo ≤ m) (h2 : m ≤ (ownF b i).hi) {w1 W : World} {p gb cap n2 c2 : Nat} {A2 : Option Addr}
    (hT : Tab w1) (h : CU w1 p (.int .i64 b.id) (.int .i64 b.layers) (.int .i64 b.dry.lo) (.int .i64 b.dry.hi) (.slice A2 n2 c2) nl gb cap (layD (pinF b i m) nl) w1.heap.size b.weighs W) :
    Calls Tryd.prog 61 #[.agg #[.int .i64 b.id, .int .i64 b.layers, .int .i64 b.dry.lo, .int .i64 b.dry.hi, .slice (some ⟨gb, 0, none⟩) nl cap, .slice A2 n2 c2]] W fun e w' => e = .returned (.int .i64 (numK (spans b) i m)) ∧ Ext W w' := by
  have hfi := own_fit hv (ok_grown ho) i (by rw [hnl]; exact hi)
  obtain ⟨v2, o2⟩ := lay_fine hv ho (pin_fit (i := i) hv (ok_grown ho) (show 1 ≤ m by omega) (show m ≤ 9 by omega))
  have := kindsN_any (layB b (pinF b i m)) v2 o2 (.slice (some ⟨gb, 0, none⟩) nl cap) (.slice A2 n2 c2) W (hT.ext h.ct.ex) (by show SlD W _ (layD (pinF b i m) b.layers.toNat); rw [hnl]; exact h.ct.d) (h.w.sl (fun _ => rfl))
  rw [kinds_pin hv ho (by rw [hnl]; exact hi) h1 h2] at this
  exact this

set_option maxHeartbeats 8000000 in
theorem askLaw_any (b : Bale) (x1 x2 : Int) (dv wv : Value) (w : World) (hT : Tab w) (hd : SlD w dv b.draws) (hw : SlW w wv b.weighs) (hx1 : 0 ≤ x1 ∧ x1 ≤ 255) (hx2 : 0 ≤ x2 ∧ x2 ≤ 255) :
    Calls Tryd.prog 10 #[valB b dv wv, .int .u8 x1, .int .u8 x2] w fun e w' => e = .returned (.bool true) ∧ Ext w w' := by
  have HT := Lib.hid hT
  have HD := Lib.hid hd
  have HW := Lib.hid hw
  have HX1 := Lib.hid hx1
  have HX2 := Lib.hid hx2
  obtain ⟨A, n, cp, rfl, hn, hlc, hcm⟩ := hd.form
  obtain ⟨A2, n2, cp2, rfl, hn2, hlc2, hcm2⟩ := hw.form
  clear hd hw hT hx1 hx2
  go_enter Tryd.func10, Tryd.ntmps10
  go_wp2_with fail
  have S0 := Lib.hid (show SB b w w.heap.size (.slice A n cp) (.slice A2 n2 cp2) _ from ⟨Ext.al _ (.cells #[.int .i64 b.id, .int .i64 b.layers, .int .i64 b.dry.lo, .int .i64 b.dry.hi, .slice A n cp, .slice A2 n2 cp2] 27), Blk.new _ _ _, HT.out.ext (Ext.al _ _), HD.out.ext (Ext.al _ _), HW.out.ext (Ext.al _ _)⟩)
  refine (alive_any _ S0.out.t).mono ?_
  rintro e w1 ⟨rfl, hE⟩
  have S1 := Lib.hid (S0.out.ext hE); clear S0 hE
  obtain ⟨y0, y1, y2, y3, y4, y5, yl⟩ := S1.out.cells
  go_wp2_with fail
  clear y0 y1 y2 y3 y4 y5 yl
  refine (ready_any b _ _ _ S1.out.d S1.out.w).mono ?_
  rintro e w2 ⟨rfl, hE⟩
  have S2 := Lib.hid (S1.out.ext hE); clear S1 hE
  cases hr : readyB b with
  | false =>
    go_wp2
    go_ret
    exact ⟨rfl, S2.out.e⟩
  | true =>
    obtain ⟨hv, ho, hd20, hw16⟩ := ready_len hr
    have HV := Lib.hid hv; have HO := Lib.hid ho; have H20 := Lib.hid (And.intro hd20 hw16)
    clear hr hv ho hd20 hw16
    have HBD := Lib.hid (valid_bds HV.out)
    obtain ⟨y0, y1, y2, y3, y4, y5, yl⟩ := S2.out.cells
    go_wp2_with fail
    clear y0 y1 y2 y3 y4 y5 yl
    refine (ask_any b _ _ _ S2.out.t S2.out.d S2.out.w).mono ?_
    rintro e w3 ⟨rfl, hE⟩
    have S3 := Lib.hid (S2.out.ext hE); clear S2 hE
    obtain ⟨a, L, haL, haz, hL1, hL4, hLm, hLi⟩ := askO_law HV.out HO.out
    rw [haL, ask_ok HV.out HO.out]
    dsimp only
    have HLM := Lib.hid hLm; have HLI := Lib.hid hLi
    obtain ⟨nl, hnl⟩ : ∃ nl : Nat, b.layers = (nl : Int) := ⟨b.layers.toNat, by have := HBD.out.l1; omega⟩
    have HNL := Lib.hid (show b.layers = (nl : Int) ∧ b.layers.toNat = nl ∧ 1 ≤ nl ∧ nl ≤ 5 by have := HBD.out.l1; have := HBD.out.l5; omega)
    have haz : a < nl := by have := HNL.out; omega
    have HAL := Lib.hid (show a < nl ∧ 1 ≤ L ∧ L ≤ 4 from ⟨haz, hL1, hL4⟩)
    have i1 : ¬ (a : Int) < 0 := by omega
    have i2 : ¬ b.layers ≤ (a : Int) := by omega
    have i3 : ¬ L < 1 := by omega
    have i4 : ¬ (4 : Int) < L := by omega
    clear haL hLm hLi hnl hL1 hL4 haz
    obtain ⟨y0, y1, y2, y3, y4, y5, yl⟩ := S3.out.cells
    go_wp2_with fail
    clear y0 y1 y2 y3 y4 y5 yl i1 i2 i3 i4
    refine (twin_any b _ _ _ S3.out.d S3.out.w (by have := H20.out; omega) (by have := H20.out; omega)).mono ?_
    rintro e w4 ⟨⟨v, rfl, dv4, wv4, rfl, o1, o2⟩, hE⟩
    have hsd : SlD w4 dv4 b.draws := o1.sl (fun _ => rfl)
    have hsw : SlW w4 wv4 b.weighs := o2.sl (fun _ => rfl)
    obtain ⟨A3, n3, cp3, rfl, -, -, -⟩ := hsd.form
    obtain ⟨A4, n4, cp4, rfl, -, -, -⟩ := hsw.form
    have HW4 := Lib.hid hsw
    have S4 := Lib.hid (S3.out.ext hE)
    clear hE S3 o1 o2 hsd hsw
    dsimp only [valB]
    have y1 : w4.cell? ⟨w.heap.size, 1, none⟩ = some (.int .i64 (nl : Int)) := by rw [← HNL.out.1]; exact S4.out.cells.2.1
    have yl : w.heap.size < w4.heap.size := S4.out.p.lt
    have yne : ¬ w.heap.size = w4.heap.size := by omega
    have C0 := Lib.hid (show CB encS 23 2 w4 w4.heap.size (.int .i64 b.id) (.int .i64 b.layers) (.int .i64 b.dry.lo) (.int .i64 b.dry.hi) (.slice A4 n4 cp4) (layD (ownF b) 0) (.slice none 0 0) (.slice none 0 0) (spansTo b 0) (w4.alloc (.cells #[.int .i64 b.id, .int .i64 b.layers, .int .i64 b.dry.lo, .int .i64 b.dry.hi, .slice none 0 0, .slice A4 n4 cp4] 27)) from
      ⟨Ext.al _ _, Blk.new _ _ _, Nat.le_refl _, by simp, ⟨Own.nil _ _, none, 0, rfl, fun _ => rfl⟩, Own.nil _ _⟩)
    go_wp2
    go_loopg [12, 64] nl (fun gg s12 s64 wr => ∃ (kk : Nat) (dv : Value), kk ≤ nl ∧ nl - kk ≤ gg ∧ s64 = .int .i64 (kk : Int) ∧ Aside (CB encS 23 2 w4 w4.heap.size (.int .i64 b.id) (.int .i64 b.layers) (.int .i64 b.dry.lo) (.int .i64 b.dry.hi) (.slice A4 n4 cp4) (layD (ownF b) kk) dv s12 (spansTo b kk) wr))
    case atStart => exact ⟨0, _, by omega, by omega, rfl, C0.out⟩
    case round =>
      obtain ⟨kk, dv, hkk, hg, rfl, CR⟩ := hrel
      by_cases hlt : kk < nl
      · -- BLOCK one
        have hltz : (kk : Int) < (nl : Int) := by omega
        have SR := Lib.hid (S4.out.ext CR.out.ex)
        have hkl : kk < b.layers.toNat := by rw [HNL.out.2.1]; exact hlt
        have HL := Lib.hid (layer_ok HV.out HO.out hkl)
        obtain ⟨y0, y1, y2, y3, y4, y5, yl⟩ := SR.out.cells
        clear hkl
        go_wp2_with fail
        clear y0 y1 y2 y3 y4 y5 yl
        refine (layer_any b (kk : Int) _ _ _ SR.out.t SR.out.d SR.out.w).mono ?_
        rintro e w5 ⟨rfl, hE⟩
        have C5 := Lib.hid (CR.out.ext hE); clear hE SR CR
        rw [HL.out.1, HL.out.2, ask_ok HV.out HO.out]
        obtain ⟨lo, hi, hlh⟩ : ∃ lo hi, spanAt b.draws (kk : Int) = ⟨lo, hi⟩ := ⟨_, _, rfl⟩
        have HLH := Lib.hid (show ownF b kk = ⟨lo, hi⟩ from hlh)
        rw [hlh]
        clear hlh
        have HSL := Lib.hid (spansTo_len b kk)
        have HKK := Lib.hid (show kk ≤ 5 by have := HNL.out; omega)
        dsimp only [valS]
        go_wp2_with (at_builtin; refine wpList_app encS 92 23 2 _ 16 Tryd.underlying92 info23x rfl (by decide) (by decide) (fun _ => rfl) encS_one rfl (.tmp 75) (.tmp 77) rfl (w4.heap.size + 1) _ (spansTo b kk) rfl ((C5.out.l.alloc _).alloc _) (w5.heap.size + 1) 1 ⟨lo, hi⟩ rfl (cells2 (by simp [go_sem]) (by simp [go_sem])) (by rw [HSL.out]; have := HKK.out; omega) (by have := C5.out.big; simp; omega) ?_)
        intro gb cap w7 hown hg2 hbel hgr
        rw [HSL.out] at hown ⊢
        rw [← HLH.out, own_succS] at hown
        have Q7 := Lib.hid (((Blk.new w5 23 #[.int .i64 lo, .int .i64 hi]).alloc (.cells #[.int .i64 lo, .int .i64 hi] 23)).grown hgr (Own.notIn C5.out.l (Nat.le_refl _)))
        have C7 := Lib.hid (show CQ encS 23 2 w4 w4.heap.size (.int .i64 b.id) (.int .i64 b.layers) (.int .i64 b.dry.lo) (.int .i64 b.dry.hi) (.slice A4 n4 cp4) (layD (ownF b) kk) dv (.slice (some ⟨gb, 0, none⟩) (kk + 1) cap) (spansTo b (kk + 1)) w5.heap.size (.int .i64 lo) (.int .i64 hi) w7 from ⟨(C5.out.ext ((Ext.al w5 (.cells #[.int .i64 lo, .int .i64 hi] 23)).trans (Ext.al _ _))).app hown hbel hgr (by decide) (by decide), Q7.out⟩)
        clear hown hg2 hbel hgr Q7 C5
        have m4 := fun V (h : CQ encS 23 2 w4 w4.heap.size (.int .i64 b.id) (.int .i64 b.layers) (.int .i64 b.dry.lo) (.int .i64 b.dry.hi) (.slice A4 n4 cp4) (layD (ownF b) kk) dv (.slice (some ⟨gb, 0, none⟩) (kk + 1) cap) (spansTo b (kk + 1)) w5.heap.size (.int .i64 lo) (.int .i64 hi) V) => h.cb.cells.2.2.2.2.1
        have s0 := fun V (h : CQ encS 23 2 w4 w4.heap.size (.int .i64 b.id) (.int .i64 b.layers) (.int .i64 b.dry.lo) (.int .i64 b.dry.hi) (.slice A4 n4 cp4) (layD (ownF b) kk) dv (.slice (some ⟨gb, 0, none⟩) (kk + 1) cap) (spansTo b (kk + 1)) w5.heap.size (.int .i64 lo) (.int .i64 hi) V) => (show V.cell? ⟨w5.heap.size, 0, none⟩ = some (.int .i64 lo) from h.blk.cell 0)
        have s1 := fun V (h : CQ encS 23 2 w4 w4.heap.size (.int .i64 b.id) (.int .i64 b.layers) (.int .i64 b.dry.lo) (.int .i64 b.dry.hi) (.slice A4 n4 cp4) (layD (ownF b) kk) dv (.slice (some ⟨gb, 0, none⟩) (kk + 1) cap) (spansTo b (kk + 1)) w5.heap.size (.int .i64 lo) (.int .i64 hi) V) => (show V.cell? ⟨w5.heap.size, 1, none⟩ = some (.int .i64 hi) from h.blk.cell 1)
        have hwk : IntKind.i64.wrap ((kk : Int) + 1) = (kk : Int) + 1 := wrap_small _ (by have := HKK.out; omega) (by have := HKK.out; omega)
        go_wp2
        refine wp_region_tame_cut (fun V => CQ encS 23 2 w4 w4.heap.size (.int .i64 b.id) (.int .i64 b.layers) (.int .i64 b.dry.lo) (.int .i64 b.dry.hi) (.slice A4 n4 cp4) (layD (ownF b) kk) dv (.slice (some ⟨gb, 0, none⟩) (kk + 1) cap) (spansTo b (kk + 1)) w5.heap.size (.int .i64 lo) (.int .i64 hi) V) (RF encD 4 63 (w4.heap.size + 1) (layD (ownF b) kk ++ [⟨(kk : Int) + 1, (kk : Int), ⟨lo, hi⟩⟩]) ⟨(kk : Int) + 1, (kk : Int), ⟨lo, hi⟩⟩) (by kernel_rfl) 187 rfl _ rfl (by decide +kernel) (by decide +kernel) (by decide +kernel) rfl (C7.out.ext (Ext.refl _).drew) ?_
        simp only [List.dropLast]
        repeat (apply tame_q rfl; (intro ρ W hC hr hD; (obtain ⟨hrc, hrg, hrf, hrs⟩ := hr); (simp [go_sem] at hD); go_simp; first | exact ⟨⟨hC, RF.refl _⟩, rfl⟩ | exact rfl); simp only [List.nil_append, List.cons_append])
        apply tame_q rfl
        · intro ρ V hC hr hD
          obtain ⟨hrc, hrg, hrf, hrs⟩ := hr
          simp [go_sem] at hD
          go_simp
          refine (draw_any ((kk : Int) + 1) (kk : Int) lo hi _).mono ?_
          rintro e w' ⟨rfl, hE⟩
          exact ⟨_, rfl, ⟨hC.ext hE, RF.ext hE⟩, rfl⟩
        simp only [List.nil_append, List.cons_append]
        apply tame_v rfl (OneF encD 63 ⟨(kk : Int) + 1, (kk : Int), ⟨lo, hi⟩⟩) (fun v V V' _ hR h => by obtain ⟨g, h1, h2⟩ := h; exact ⟨g, h1, hR.2.2.1 g h2⟩)
        · intro ρ V hC hr hD
          obtain ⟨hrc, hrg, hrf, hrs⟩ := hr
          simp [go_sem] at hD
          go_simp
          exact ⟨⟨hC.ext (Ext.al _ _), RF.ext (Ext.al _ _)⟩, ⟨_, rfl, Blk.new _ _ _⟩⟩
        simp only [List.nil_append, List.cons_append]
        apply tame_v rfl (NewF encD 4 63 (w4.heap.size + 1) (layD (ownF b) kk ++ [⟨(kk : Int) + 1, (kk : Int), ⟨lo, hi⟩⟩])) (fun v V V' _ hR h => ⟨hR.2.1 _ (List.prefix_refl _) v h.1, h.2⟩)
        · intro ρ V hC hr hD
          obtain ⟨hrc, hrg, hrf, hrs⟩ := hr
          simp [go_sem] at hD
          obtain ⟨d1, d2, -⟩ := hD
          obtain ⟨v', V', hrun, hnew, hR, hB, hO⟩ := run_appG (t := 24) (ty := 24) (enc := encD) (sz := 4) (y := ⟨(kk : Int) + 1, (kk : Int), ⟨lo, hi⟩⟩) Tryd.underlying24 info63x rfl (by decide) (by decide) (fun _ => rfl) encD_1 hC.cb.d (by rw [layD_len]; have := HKK.out; omega) hC.cb.big d2
          rw [← d1] at hrun
          show opGives _ _ _ _ _ _ _
          unfold opGives execOp
          simp only [resolve, invoke, builtin, Sem.run_bind, Sem.run_pure, Result.andThen_ok, List.map_toArray, List.map_cons, List.map_nil, hrun]
          exact ⟨⟨hC.old hR hB hO (by decide), hR⟩, hnew⟩
        simp only [List.nil_append, List.cons_append]
        repeat (apply tame_q rfl; (intro ρ W hC hr hD; (obtain ⟨hrc, hrg, hrf, hrs⟩ := hr); (simp [go_sem] at hD); go_simp; first | exact ⟨⟨hC, RF.refl _⟩, rfl⟩ | exact rfl); simp only [List.nil_append, List.cons_append])
        refine tame_end_put rfl rfl (fun ρ V hC hr hF => ?_)
        simp [go_sem] at hF
        obtain ⟨f1, f2, f3, f4, f5, f6, f7, f8, f9, f10, -, hN, f12⟩ := hF
        simp only [putF, f1, f2, f3, f4, f5, f6, f7, f8, f9, f10, f12, List.set_cons_succ, List.set_cons_zero]
        generalize ρ (Operand.tmp 90) = dv2 at *
        generalize ρ (Operand.tmp 89) = u89 at *
        obtain ⟨A5, c5, e2, -⟩ := hN.2
        rw [List.length_append, layD_len, List.length_singleton] at e2
        subst e2
        have HN2 := Lib.hid hN
        have CB2 := Lib.hid hC.cb
        clear f1 f2 f3 f4 f5 f6 f7 f8 f9 f10 f12 hN hr hC m4 s0 s1
        obtain ⟨y0, y1, y2, y3, y4, y5, yl⟩ := CB2.out.cells
        have xf := CB2.out.blk.frozen 4
        go_wp2
        go_roundg (nl - (kk + 1))
        case measure => omega
        case rel => exact ⟨kk + 1, _, by omega, by omega, by simp, (by
          have h := CB2.out.put HN2.out
          have e : layD (ownF b) kk ++ [⟨(kk : Int) + 1, (kk : Int), ⟨lo, hi⟩⟩] = layD (ownF b) (kk + 1) := by rw [layD_succ, HLH.out]
          rw [e] at h
          exact h)⟩
        -- END one
      · -- BLOCK two
        obtain rfl : kk = nl := by omega
        obtain ⟨A5, c5, e5, -⟩ := CR.out.d.2
        rw [layD_len] at e5
        subst e5
        have SA := Lib.hid (S4.out.ext CR.out.ex)
        have SBR := Lib.hid (SB.bare CR.out S4.out.t HW4.out (f := ownF b) (by rw [HNL.out.2.1]))
        have HSP := Lib.hid (show SlS wr u12 (spans b) by have h := Own.sl (enc := encS) (sz := 2) (fun _ => rfl) CR.out.l; rw [← HNL.out.2.1] at h; exact h)
        obtain ⟨A6, n6, cp6, rfl, hn6, -, -⟩ := HSP.out.form
        obtain rfl : n6 = kk := by have := hn6.out; rw [spans_len] at this; rw [this, HNL.out.2.1]
        clear CR hn6 S4 C0
        have HLEN := Lib.hid (show (layB b (ownF b)).draws.length = n6 by show (layD (ownF b) b.layers.toNat).length = n6; rw [layD_len]; exact HNL.out.2.1)
        -- the layer that is told
        obtain ⟨b6, o6, sa, rfl, hsa, -, hcell⟩ := HSP.out.at_ HAL.out.1
        have hal : a < b.layers.toNat := by rw [HNL.out.2.1]; exact HAL.out.1
        rw [spans_get hal] at hsa
        injection hsa with hsa
        obtain ⟨lo, hi⟩ := sa
        have HLH := Lib.hid (show ownF b a = ⟨lo, hi⟩ from hsa)
        have hfit := own_fit HV.out (ok_grown HO.out) a hal
        rw [HLH.out] at hfit
        have HFIT := Lib.hid (show 1 ≤ lo ∧ lo ≤ hi ∧ hi ≤ 9 from hfit)
        obtain ⟨m, hm⟩ : ∃ m : Int, m = lo + x1 % (hi - lo + 1) := ⟨_, rfl⟩
        have q1 := Int.emod_nonneg x1 (show hi - lo + 1 ≠ 0 by have := HFIT.out; omega)
        have q2 := Int.emod_lt_of_pos x1 (show 0 < hi - lo + 1 by have := HFIT.out; omega)
        have HM := Lib.hid (show lo ≤ m ∧ m ≤ hi by omega)
        have hrm : x1.tmod (hi - lo + 1) = m - lo := by rw [Int.tmod_eq_emod_of_nonneg HX1.out.1]; omega
        have hwx : IntKind.i64.wrap x1 = x1 := wrap_small _ (by have := HX1.out; omega) (by have := HX1.out; omega)
        have hw1 : IntKind.i64.wrap (hi - lo) = hi - lo := wrap_small _ (by have := HFIT.out; omega) (by have := HFIT.out; omega)
        have hw2 : IntKind.i64.wrap (hi - lo + 1) = hi - lo + 1 := wrap_small _ (by have := HFIT.out; omega) (by have := HFIT.out; omega)
        have hw3 : IntKind.i64.wrap (lo + (m - lo)) = m := by rw [show lo + (m - lo) = m by omega]; exact wrap_small _ (by have := HFIT.out; omega) (by have := HFIT.out; omega)
        have hnz : ¬ hi - lo + 1 = 0 := by have := HFIT.out; omega
        obtain ⟨c0, c1⟩ := SlS.cells hcell (Ext.refl _)
        have ha0 : (0 : Int) ≤ (a : Int) := by omega
        have ha1 : (a : Int) < (n6 : Int) := by have := HAL.out; omega
        have ha2 : a < n6 := HAL.out.1
        clear hsa hal hfit hm q1 q2 hcell
        go_wp2
        clear c0 c1
        have E6 := Lib.hid (Ext.al wr (.cells #[.int .i64 lo, .int .i64 hi] 23))
        have A6' := Lib.hid (Blk.new wr 23 #[.int .i64 lo, .int .i64 hi])
        generalize wr.alloc (.cells #[.int .i64 lo, .int .i64 hi] 23) = w6 at E6 A6'
        have a0 := fun W (h : Ext w6 W) => (show W.cell? ⟨wr.heap.size, 0, none⟩ = some (.int .i64 lo) from (A6'.out.ext h).cell 0)
        have a1 := fun W (h : Ext w6 W) => (show W.cell? ⟨wr.heap.size, 1, none⟩ = some (.int .i64 hi) from (A6'.out.ext h).cell 1)
        refine wp_region_tame (fun W => Ext w6 W) (fun W W' => Ext W W') (by kernel_rfl) 187 rfl (by decide +kernel) (Ext.refl _).drew ?_
        repeat (apply tame_q rfl; (intro ρ W hC hr hD; (obtain ⟨hrc, hrg, hrf, hrs⟩ := hr); (simp [go_sem] at hD); go_simp; first | exact ⟨⟨hC, Ext.refl _⟩, rfl⟩ | exact ⟨⟨hC, RS.refl _⟩, rfl⟩ | exact rfl); simp only [List.nil_append, List.cons_append])
        refine tame_end_put rfl rfl (fun ρ w7 hC hr hF => ?_)
        simp [go_sem] at hF
        simp only [putF, hF, List.set_cons_succ, List.set_cons_zero]
        have E7 := Lib.hid (E6.out.trans hC)
        clear hF hr a0 a1 hC hrm hwx hw1 hw2 hw3 hnz E6 A6'
        have SA7 := Lib.hid (SA.out.ext E7.out)
        have SB7 := Lib.hid (SBR.out.ext E7.out)
        have HSP7 := Lib.hid (HSP.out.ext E7.out)
        clear SA SBR HSP E7
        have h20 : (layB b (ownF b)).draws.length ≤ 1000 := by rw [HLEN.out]; have := HNL.out; omega
        obtain ⟨y0, y1, y2, y3, y4, y5, yl⟩ := SB7.out.cells
        have h16 : (layB b (ownF b)).weighs.length ≤ 1000 := by show b.weighs.length ≤ 1000; have := H20.out; omega
        have HL2 := Lib.hid (And.intro h20 h16)
        clear h20 h16
        go_wp2_with fail
        clear y0 y1 y2 y3 y4 y5 yl
        refine (twin_any (layB b (ownF b)) _ _ _ SB7.out.d SB7.out.w HL2.out.1 HL2.out.2).mono ?_
        rintro e wt ⟨⟨v, rfl, hTV⟩, hE⟩
        obtain ⟨gb, cap, A8, n8, c8, rfl, hCT⟩ := twin_box hTV hE HLEN.out (by have := HNL.out; omega)
        have T0 := Lib.hid (show CU w7 wt.heap.size (.int .i64 b.id) (.int .i64 b.layers) (.int .i64 b.dry.lo) (.int .i64 b.dry.hi) (.slice A8 n8 c8) n6 gb cap (layD (ownF b) n6) w7.heap.size b.weighs (wt.alloc (.cells #[.int .i64 b.id, .int .i64 b.layers, .int .i64 b.dry.lo, .int .i64 b.dry.hi, .slice (some ⟨gb, 0, none⟩) n6 cap, .slice A8 n8 c8] 27)) by
          have h := hCT
          rw [show (layB b (ownF b)).draws = layD (ownF b) n6 by show layD (ownF b) b.layers.toNat = _; rw [HNL.out.2.1]] at h
          exact h)
        have HET := Lib.hid hE
        have m4 := fun V (h : CU w7 wt.heap.size (.int .i64 b.id) (.int .i64 b.layers) (.int .i64 b.dry.lo) (.int .i64 b.dry.hi) (.slice A8 n8 c8) n6 gb cap (layD (ownF b) n6) w7.heap.size b.weighs V) => h.ct.cells.2.2.2.2.1
        clear hTV hCT hE
        dsimp only [valB, layB]
        go_wp2
        have HPOS := Lib.hid (show 0 < n6 by have := HNL.out; omega)
        refine wp_region_tame_cut (fun V => CU w7 wt.heap.size (.int .i64 b.id) (.int .i64 b.layers) (.int .i64 b.dry.lo) (.int .i64 b.dry.hi) (.slice A8 n8 c8) n6 gb cap (layD (ownF b) n6) w7.heap.size b.weighs V) (fun V V' => Ext V V') (by kernel_rfl) 187 rfl _ rfl (by decide +kernel) (by decide +kernel) (by decide +kernel) rfl (T0.out.ext HPOS.out (Ext.refl _).drew) ?_
        simp only [List.dropLast]
        repeat (apply tame_q rfl; (intro ρ W hC hr hD; (obtain ⟨hrc, hrg, hrf, hrs⟩ := hr); (simp [go_sem] at hD); go_simp; first | exact ⟨⟨hC, Ext.refl _⟩, rfl⟩ | exact ⟨⟨hC, RS.refl _⟩, rfl⟩ | exact rfl); simp only [List.nil_append, List.cons_append])
        apply tame_q rfl
        · intro ρ V hC hr hD
          obtain ⟨hrc, hrg, hrf, hrs⟩ := hr
          simp [go_sem] at hD
          go_simp
          refine (span_any m m _).mono ?_
          rintro e w' ⟨rfl, hE⟩
          exact ⟨_, rfl, ⟨hC.ext HPOS.out hE, hE⟩, rfl⟩
        simp only [List.nil_append, List.cons_append]
        repeat (apply tame_q rfl; (intro ρ W hC hr hD; (obtain ⟨hrc, hrg, hrf, hrs⟩ := hr); (simp [go_sem] at hD); go_simp; first | exact ⟨⟨hC, Ext.refl _⟩, rfl⟩ | exact ⟨⟨hC, RS.refl _⟩, rfl⟩ | exact rfl); simp only [List.nil_append, List.cons_append])
        refine tame_end_put rfl rfl (fun ρ V hC hr hF => ?_)
        simp [go_sem] at hF
        simp only [putF, hF, List.set_cons_succ, List.set_cons_zero]
        have CV := Lib.hid hC
        clear hF hr m4 hC T0
        obtain ⟨u2, u3, y2, y3, z2, z3, zl⟩ := CV.out.ct.at_ ha2
        have hVs := CV.out.ct.ex.size
        have CP := Lib.hid (show CU w7 wt.heap.size (.int .i64 b.id) (.int .i64 b.layers) (.int .i64 b.dry.lo) (.int .i64 b.dry.hi) (.slice A8 n8 c8) n6 gb cap (layD (pinF b a m) n6) w7.heap.size b.weighs ((V.setCell ⟨gb, a * 4 + 2, none⟩ (.int .i64 m)).setCell ⟨gb, a * 4 + 3, none⟩ (.int .i64 m)) by
          have h := CV.out.put (s := ⟨m, m⟩) ha2 (layD_at ha2)
          rw [set_pin b m ha2] at h
          exact h)
        obtain ⟨x0, x1', x2', x3, x4, x5, xl⟩ := CV.out.ct.cells
        have xne : ¬ gb = wt.heap.size := fun h => CV.out.ct.ne h.symm
        dsimp only [valS]
        go_wp2_with fail
        clear x0 x1' x2' x3 x4 x5 xl y2 y3 z2 z3 zl xne hVs
        have g1 : (ownF b a).lo ≤ m := by rw [HLH.out]; exact HM.out.1
        have g2 : m ≤ (ownF b a).hi := by rw [HLH.out]; exact HM.out.2
        refine (kinds_twin HV.out HO.out HNL.out.2.1 HAL.out.1 g1 g2 SB7.out.t CP.out).mono ?_
        rintro e w8 ⟨rfl, hE⟩
        have n1 := numK_pos HV.out HO.out (show a < b.layers.toNat by rw [HNL.out.2.1]; exact HAL.out.1) g1 g2
        have n2' := most_ge g1 g2
        rw [← HLM.out] at n2'
        have E8 := Lib.hid (CP.out.ct.ex.trans hE)
        clear g1 g2 CP CV hE HET
        generalize numK (spans b) a m = K1 at n1 n2'
        have n3' : ¬ K1 < 1 := by omega
        have n4' : ¬ L < K1 := by omega
        have SA8 := Lib.hid (SA7.out.ext E8.out)
        have SB8 := Lib.hid (SB7.out.ext E8.out)
        have HSP8 := Lib.hid (HSP7.out.ext E8.out)
        clear SA7 SB7 HSP7 E8 ha0 ha1 ha2
        obtain ⟨i, hi⟩ : ∃ i : Nat, i = (x2 % (n6 : Int)).toNat := ⟨_, rfl⟩
        have q1 := Int.emod_nonneg x2 (show (n6 : Int) ≠ 0 by have := HNL.out; omega)
        have q2 := Int.emod_lt_of_pos x2 (show 0 < (n6 : Int) by have := HNL.out; omega)
        have hin : i < n6 := by omega
        have HIN := Lib.hid hin
        have hrm : x2.tmod (n6 : Int) = (i : Int) := by rw [Int.tmod_eq_emod_of_nonneg HX2.out.1]; omega
        have hwx : IntKind.i64.wrap x2 = x2 := wrap_small _ (by have := HX2.out; omega) (by have := HX2.out; omega)
        have hnz : ¬ (n6 : Int) = 0 := by omega
        have y1 : w8.cell? ⟨w.heap.size, 1, none⟩ = some (.int .i64 (n6 : Int)) := by rw [← HNL.out.1]; exact SA8.out.cells.2.1
        have yl : w.heap.size < w8.heap.size := SA8.out.p.lt
        have hi0 : (0 : Int) ≤ (i : Int) := by omega
        have hi1 : (i : Int) < (n6 : Int) := by omega
        have hil : i < b.layers.toNat := by rw [HNL.out.2.1]; exact hin
        have HIL := Lib.hid hil
        obtain ⟨b7, o7, sb, e7, hsb, -, hcell⟩ := HSP8.out.at_ hin
        injection e7 with e7
        injection e7 with e8 e9
        subst e8 e9
        rw [spans_get hil] at hsb
        injection hsb with hsb
        obtain ⟨lo2, h2⟩ := sb
        have HLH2 := Lib.hid (show ownF b i = ⟨lo2, h2⟩ from hsb)
        have hfit := own_fit HV.out (ok_grown HO.out) i hil
        rw [HLH2.out] at hfit
        have HFIT2 := Lib.hid (show 1 ≤ lo2 ∧ lo2 ≤ h2 ∧ h2 ≤ 9 from hfit)
        have HCELL := Lib.hid (fun W (h : Ext w8 W) => SlS.cells hcell h)
        obtain ⟨c0, c1⟩ := HCELL.out w8 (Ext.refl _)
        clear hi q1 q2 hil hsb hfit hcell
        go_wp2
        clear c0 c1 hrm hwx hnz y1 yl n1 n2' n3' n4'
        go_loopg [21, 22] 10 (fun gg s21 s22 wr => ∃ j : Nat, (j : Int) ≤ h2 - lo2 + 1 ∧ (h2 - lo2 + 1 - j).toNat ≤ gg ∧ s22 = .int .i64 (lo2 + (j : Int)) ∧ s21 = .int .i64 (mostN b i j) ∧ Aside (Ext w8 wr))
        case atStart => exact ⟨0, by have := HFIT2.out; omega, by have := HFIT2.out; omega, by simp, rfl, Ext.refl _⟩
        case round =>
          obtain ⟨j, hj, hg, rfl, rfl, EX⟩ := hrel
          obtain ⟨c0, c1⟩ := HCELL.out wr EX.out
          by_cases hlt : lo2 + (j : Int) ≤ h2
          · have SBr := Lib.hid (SB8.out.ext EX.out)
            obtain ⟨y0, y1, y2, y3, y4, y5, yl⟩ := SBr.out.cells
            have HJ := Lib.hid (show lo2 + (j : Int) ≤ h2 ∧ 0 ≤ (j : Int) from ⟨hlt, by omega⟩)
            obtain ⟨m2, hm2⟩ : ∃ m2, m2 = lo2 + (j : Int) := ⟨_, rfl⟩
            have HM2 := Lib.hid hm2
            have HMS := Lib.hid (show mostN b i (j + 1) = max (mostN b i j) (numK (spans b) i m2) by rw [most_succ, HLH2.out, HM2.out])
            have HWN := Lib.hid (show IntKind.i64.wrap (m2 + 1) = lo2 + ((j + 1 : Nat) : Int) by rw [wrap_small _ (by have := HFIT2.out; omega) (by have := HFIT2.out; omega)]; omega)
            rw [← hm2] at hlt ⊢
            clear hm2
            generalize mostN b i j = M at HMS
            go_wp2_with fail
            clear y0 y1 y2 y3 y4 y5 yl c0 c1
            refine (twin_any (layB b (ownF b)) _ _ _ SBr.out.d SBr.out.w HL2.out.1 HL2.out.2).mono ?_
            rintro e wu ⟨⟨v, rfl, hTV⟩, hE⟩
            obtain ⟨gc, cap2, A9, n9, c9, rfl, hCT⟩ := twin_box hTV hE HLEN.out HPOS.out
            have T0 := Lib.hid (show CU wr wu.heap.size (.int .i64 b.id) (.int .i64 b.layers) (.int .i64 b.dry.lo) (.int .i64 b.dry.hi) (.slice A9 n9 c9) n6 gc cap2 (layD (ownF b) n6) wr.heap.size b.weighs (wu.alloc (.cells #[.int .i64 b.id, .int .i64 b.layers, .int .i64 b.dry.lo, .int .i64 b.dry.hi, .slice (some ⟨gc, 0, none⟩) n6 cap2, .slice A9 n9 c9] 27)) by
              have h := hCT
              rw [show (layB b (ownF b)).draws = layD (ownF b) n6 by show layD (ownF b) b.layers.toNat = _; rw [HNL.out.2.1]] at h
              exact h)
            have m4 := fun V (h : CU wr wu.heap.size (.int .i64 b.id) (.int .i64 b.layers) (.int .i64 b.dry.lo) (.int .i64 b.dry.hi) (.slice A9 n9 c9) n6 gc cap2 (layD (ownF b) n6) wr.heap.size b.weighs V) => h.ct.cells.2.2.2.2.1
            clear hTV hCT hE
            dsimp only [valB, layB]
            go_wp2
            refine wp_region_tame_cut (fun V => CU wr wu.heap.size (.int .i64 b.id) (.int .i64 b.layers) (.int .i64 b.dry.lo) (.int .i64 b.dry.hi) (.slice A9 n9 c9) n6 gc cap2 (layD (ownF b) n6) wr.heap.size b.weighs V) (fun V V' => Ext V V') (by kernel_rfl) 187 rfl _ rfl (by decide +kernel) (by decide +kernel) (by decide +kernel) rfl (T0.out.ext HPOS.out (Ext.refl _).drew) ?_
            simp only [List.dropLast]
            repeat (apply tame_q rfl; (intro ρ W hC hr hD; (obtain ⟨hrc, hrg, hrf, hrs⟩ := hr); (simp [go_sem] at hD); go_simp; first | exact ⟨⟨hC, Ext.refl _⟩, rfl⟩ | exact ⟨⟨hC, RS.refl _⟩, rfl⟩ | exact rfl); simp only [List.nil_append, List.cons_append])
            apply tame_q rfl
            · intro ρ V hC hr hD
              obtain ⟨hrc, hrg, hrf, hrs⟩ := hr
              simp [go_sem] at hD
              go_simp
              refine (span_any m2 m2 _).mono ?_
              rintro e w' ⟨rfl, hE⟩
              exact ⟨_, rfl, ⟨hC.ext HPOS.out hE, hE⟩, rfl⟩
            simp only [List.nil_append, List.cons_append]
            repeat (apply tame_q rfl; (intro ρ W hC hr hD; (obtain ⟨hrc, hrg, hrf, hrs⟩ := hr); (simp [go_sem] at hD); go_simp; first | exact ⟨⟨hC, Ext.refl _⟩, rfl⟩ | exact ⟨⟨hC, RS.refl _⟩, rfl⟩ | exact rfl); simp only [List.nil_append, List.cons_append])
            refine tame_end_put rfl rfl (fun ρ V hC hr hF => ?_)
            simp [go_sem] at hF
            simp only [putF, hF, List.set_cons_succ, List.set_cons_zero]
            have CV := Lib.hid hC
            clear hF hr m4 hC T0
            obtain ⟨u2, u3, y2, y3, z2, z3, zl⟩ := CV.out.ct.at_ hin
            have hVs := CV.out.ct.ex.size
            have CP := Lib.hid (show CU wr wu.heap.size (.int .i64 b.id) (.int .i64 b.layers) (.int .i64 b.dry.lo) (.int .i64 b.dry.hi) (.slice A9 n9 c9) n6 gc cap2 (layD (pinF b i m2) n6) wr.heap.size b.weighs ((V.setCell ⟨gc, i * 4 + 2, none⟩ (.int .i64 m2)).setCell ⟨gc, i * 4 + 3, none⟩ (.int .i64 m2)) by
              have h := CV.out.put (s := ⟨m2, m2⟩) hin (layD_at hin)
              rw [set_pin b m2 hin] at h
              exact h)
            obtain ⟨x0, x1', x2', x3, x4, x5, xl⟩ := CV.out.ct.cells
            have xne : ¬ gc = wu.heap.size := fun h => CV.out.ct.ne h.symm
            dsimp only [valS]
            go_wp2_with fail
            clear x0 x1' x2' x3 x4 x5 xl y2 y3 z2 z3 zl xne hVs
            have g1 : (ownF b i).lo ≤ m2 := by rw [HLH2.out]; have := HJ.out; have := HM2.out; show lo2 ≤ m2; omega
            have g2 : m2 ≤ (ownF b i).hi := by rw [HLH2.out]; have := HJ.out; have := HM2.out; show m2 ≤ h2; omega
            refine (kinds_twin HV.out HO.out HNL.out.2.1 HIN.out g1 g2 SBr.out.t CP.out).mono ?_
            rintro e w11 ⟨rfl, hE⟩
            have E11 := Lib.hid ((EX.out.trans CP.out.ct.ex).trans hE)
            clear g1 g2 CP CV hE
            generalize numK (spans b) i m2 = K2 at HMS
            go_wp2
            go_roundg (h2 - lo2 + 1 - ((j + 1 : Nat) : Int)).toNat
            case measure => have := HM2.out; have := HJ.out; omega
            case rel => exact ⟨j + 1, by have := HJ.out; have := HM2.out; omega, by omega, by rw [show wrap64 (m2 + 1) = lo2 + ((j + 1 : Nat) : Int) by have := HM2.out; have := HJ.out; have := HFIT2.out; unfold wrap64; omega], by rw [HMS.out], E11.out⟩
          · have hL := HLI.out i HIL.out
            have hLM := HLM.out
            have hjj : ((ownF b i).hi - (ownF b i).lo + 1).toNat = j := by rw [HLH2.out]; show (h2 - lo2 + 1).toNat = j; omega
            rw [hjj] at hL
            have hea : i = a → mostN b i j = L := fun e => by
              subst e
              rw [hLM, hjj]
            generalize mostN b i j = M at hL hea
            obtain ⟨hL1, hL2⟩ := hL
            clear hLM hjj
            rcases Nat.lt_trichotomy i a with h | h | h
            · have h1 : L < M := hL2 h
              have h2' : ¬ (i : Int) = (a : Int) := by omega
              have h3 : ((i : Int) != (a : Int)) = true := by simpa using h2'
              have h4 : ¬ a ≤ i := by omega
              have h5 : ¬ (a : Int) ≤ (i : Int) := by omega
              clear hL2 hea
              go_wp2
              go_ret
              exact ⟨rfl, SA8.out.e.trans EX.out⟩
            · have h1 : M = L := hea h
              subst h1 h
              clear hL2 hea
              go_wp2
              go_ret
              exact ⟨rfl, SA8.out.e.trans EX.out⟩
            · have h2' : ¬ (i : Int) = (a : Int) := by omega
              have h3 : ((i : Int) != (a : Int)) = true := by simpa using h2'
              have h4 : a ≤ i := by omega
              have h5 : (a : Int) ≤ (i : Int) := by omega
              clear hL2 hea
              by_cases h6 : L < M
              all_goals
                go_wp2
                go_ret
                exact ⟨rfl, SA8.out.e.trans EX.out⟩
        -- END two
end Go.Proofs.YtdlipbobfgdleaaDoor
