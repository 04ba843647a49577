/- slices.DeleteFunc at draws and weighings, on memory of the call's own; slices.Clone at them. -/
import Derived.Test.YtfhmfbhpehldpaaGreatDoorPkMoreOM
import Derived.Test.YtfhmfbhpehldpaaGreatDoorPkMoreOG
namespace Go.Proofs.YtfhmfbhpehldpaaGreatDoor
open Go.RowKit Go.Shelf Go.Lib
set_option maxRecDepth 100000
set_option linter.unusedSimpArgs false

theorem own_cellset {w : World} {base sz g n cap k : Nat} {e : TypeId} {xs : List Value} {u : Value} (h : w.ownsRow base e sz (.slice (some ⟨g, 0, none⟩) n cap) n xs) : (w.setCell ⟨g, k, none⟩ u).ownsRow base e sz (.slice (some ⟨g, 0, none⟩) n cap) n (xs.set k u) := by
  obtain ⟨h1, h2⟩ := h
  refine ⟨by rw [List.length_set]; exact h1, .inr ?_⟩
  rcases h2 with ⟨h2, _⟩ | ⟨g', cap', cur, e1, hb, hh, hlc, hcm, hs, ht⟩
  · cases h2
  · injection e1 with e1 e2 e3
    injection e1 with e1
    injection e1 with e1 _ _
    subst e1 e3
    refine ⟨g, cap, cur.setIfInBounds k u, rfl, hb, ?_, hlc, hcm, by simpa using hs, ?_⟩
    · simp [World.setCell, Array.getElem?_modify, hh]
    · rw [Array.toList_setIfInBounds, ← ht]
      rw [List.take_set]
theorem flat_set4 {α : Type} {enc : α → List Value} (henc : ∀ x, (enc x).length = 4) {x : α} {a b c d : Value} (hx : enc x = [a, b, c, d]) : ∀ (l : List α) (i : Nat), i < l.length →
    ((((l.flatMap enc).set (i * 4) a).set (i * 4 + 1) b).set (i * 4 + 2) c).set (i * 4 + 3) d = (l.set i x).flatMap enc
  | y :: l, 0, _ => by
    obtain ⟨p, q, r, s, hy⟩ : ∃ p q r s, enc y = [p, q, r, s] := by
      match h : enc y, henc y with
      | [p, q, r, s], _ => exact ⟨p, q, r, s, rfl⟩
    simp [hy, hx]
  | y :: l, i + 1, h => by
    have ih := flat_set4 henc hx l i (by simpa using h)
    obtain ⟨p, q, r, s, hy⟩ : ∃ p q r s, enc y = [p, q, r, s] := by
      match h : enc y, henc y with
      | [p, q, r, s], _ => exact ⟨p, q, r, s, rfl⟩
    rw [List.set_cons_succ, List.flatMap_cons, List.flatMap_cons, ← ih, hy]
    rw [show (i + 1) * 4 = i * 4 + 4 by omega]
    simp only [List.cons_append, List.nil_append, List.set_cons_succ, show i * 4 + 4 + 1 = i * 4 + 1 + 4 by omega, show i * 4 + 4 + 2 = i * 4 + 2 + 4 by omega, show i * 4 + 4 + 3 = i * 4 + 3 + 4 by omega]
theorem own_put4 {α : Type} {enc : α → List Value} (henc : ∀ x, (enc x).length = 4) {w : World} {base g n cap i : Nat} {e : TypeId} {m : List α} {x : α} {a b c d : Value} (hx : enc x = [a, b, c, d])
    (h : Own enc e 4 w base (.slice (some ⟨g, 0, none⟩) n cap) m) (hn : n = m.length) (hi : i < n) :
    Own enc e 4 ((((w.setCell ⟨g, i * 4, none⟩ a).setCell ⟨g, i * 4 + 1, none⟩ b).setCell ⟨g, i * 4 + 2, none⟩ c).setCell ⟨g, i * 4 + 3, none⟩ d) base (.slice (some ⟨g, 0, none⟩) n cap) (m.set i x) := by
  unfold Own at *
  rw [List.length_set, ← hn, ← flat_set4 henc hx m i (by omega)]
  rw [← hn] at h
  exact own_cellset (own_cellset (own_cellset (own_cellset h)))
theorem own_frozen {α : Type} {enc : α → List Value} {w : World} {base g n cap sz : Nat} {e : TypeId} {m : List α} (h : Own enc e sz w base (.slice (some ⟨g, 0, none⟩) n cap) m) (k : Nat) : w.frozen? ⟨g, k, none⟩ = false := by
  rcases h.2 with ⟨h2, _⟩ | ⟨g', cap', cur, e1, hb, hh, _⟩
  · cases h2
  · injection e1 with e1 _ _
    injection e1 with e1
    injection e1 with e1 _ _
    subst e1
    simp [World.frozen?, hh]
/-- The row, cut short. -/
theorem own_short {α : Type} {enc : α → List Value} {sz : Nat} (henc : ∀ x, (enc x).length = sz) {w : World} {base g n cap k : Nat} {e : TypeId} {m : List α} (h : Own enc e sz w base (.slice (some ⟨g, 0, none⟩) n cap) m) (hk : k ≤ m.length) :
    Own enc e sz w base (.slice (some ⟨g, 0, none⟩) k cap) (m.take k) := by
  obtain ⟨h1, h2⟩ := h
  refine ⟨enc_len henc _, .inr ?_⟩
  rcases h2 with ⟨h2, _⟩ | ⟨g', cap', cur, e1, hb, hh, hlc, hcm, hs, ht⟩
  · cases h2
  · injection e1 with e1 e2 e3
    injection e1 with e1
    injection e1 with e1 _ _
    subst e1 e3
    have hl : (m.take k).length = k := by rw [List.length_take]; omega
    refine ⟨g, cap, cur, by rw [hl], hb, hh, by rw [hl]; omega, hcm, hs, ?_⟩
    rw [hl]
    have hm : m.flatMap enc = (m.take k).flatMap enc ++ (m.drop k).flatMap enc := by rw [← List.flatMap_append, List.take_append_drop]
    have h3 : (cur.toList.take (m.length * sz)).take (k * sz) = cur.toList.take (k * sz) := by
      rw [List.take_take, Nat.min_eq_left (Nat.mul_le_mul_right _ hk)]
    rw [← h3, ht, hm, List.take_append_of_le_length (by rw [enc_len henc, hl]; exact Nat.le_refl _), List.take_of_length_le (by rw [enc_len henc, hl]; exact Nat.le_refl _)]
/-- clear of a row's end. -/
theorem run_clear_own {α : Type} {enc : α → List Value} {sz : Nat} (henc : ∀ x, (enc x).length = sz) {t e ty : TypeId} {z : Value} (ht : Tryz.prog.underlying t = some (.slice e)) (hz : ∀ W, (zeroValue e).run Tryz.prog W = .ok z W) (hzs : z.cells.size = sz) (hsz : 0 < sz) (hz1 : ∀ i, i < sz → (z.cells[i]!).oneCell' = true)
    {w : World} {base g n cap k c : Nat} {m : List α} (h : Own enc e sz w base (.slice (some ⟨g, 0, none⟩) n cap) m) (hn : n = m.length) (hk : k ≤ n) :
    ∃ w', (Builtin.clear_ #[t] ty #[.slice (some ⟨g, k * sz, none⟩) (n - k) c]).run Tryz.prog w = .ok (.tuple #[]) w' ∧ Own enc e sz w' base (.slice (some ⟨g, 0, none⟩) k cap) (m.take k) ∧ w.grownBy w' (some g) := by
  by_cases h0 : n - k = 0
  · refine ⟨w, ?_, own_short henc h (by omega), World.grownBy.refl _ _⟩
    rw [h0]
    simp [Builtin.clear_, run_underlying ht]
  · obtain ⟨h1, h2⟩ := id h
    rcases h2 with ⟨h2, _⟩ | ⟨g', cap', cur, e1, hb, hh, hlc, hcm, hs, htk⟩
    · cases h2
    · injection e1 with e1 e2 e3
      injection e1 with e1
      injection e1 with e1 _ _
      subst e1 e3
      obtain ⟨q, hq⟩ : ∃ q, n - k = q + 1 := ⟨n - k - 1, by omega⟩
      have hle : (Builtin.zeroCells z.cells (n - k)).toList.length = (n - k) * sz := by rw [Array.length_toList, size_zeroCells, hzs]
      have hsum : k * sz + (n - k) * sz = n * sz := by rw [← Nat.add_mul, Nat.add_sub_cancel' hk]
      have hns : n * sz ≤ cap * sz := Nat.mul_le_mul_right _ (by omega)
      have hst := run_storeCells_at (P := Tryz.prog) g (k * sz) e (Builtin.zeroCells z.cells (n - k)).toList 0 cur w hh (by rw [hle, hs]; omega) (fun u hu => by
        simp only [Builtin.zeroCells, Array.toList_map, List.mem_map] at hu
        obtain ⟨i, -, rfl⟩ := hu
        exact hz1 _ (by rw [hzs]; exact Nat.mod_lt _ hsz))
      generalize hrow : (cur.toList.take (k * sz + 0) ++ (Builtin.zeroCells z.cells (n - k)).toList ++ cur.toList.drop (k * sz + 0 + (Builtin.zeroCells z.cells (n - k)).toList.length)).toArray = row at hst
      refine ⟨w.setRow g row, ?_, ?_, ⟨rfl, rfl, rfl, by simp [World.setRow], fun i _ hi => setRow_other w g i _ (fun e => hi (by rw [e]))⟩⟩
      · have h9 := hst
        rw [hq] at h9 ⊢
        simp [Builtin.clear_, run_underlying ht, hz, h9]
      · obtain ⟨s1, s2⟩ := own_short henc h (show k ≤ m.length by omega)
        refine ⟨s1, .inr ?_⟩
        rcases s2 with ⟨s2, _⟩ | ⟨g', cap', cur', e1, hb', hh', hlc', hcm', hs', htk'⟩
        · cases s2
        · injection e1 with e1 e2 e3
          injection e1 with e1
          injection e1 with e1 _ _
          subst e1 e3
          rw [hh] at hh'
          injection hh' with hh'
          injection hh' with hh' _ _
          subst hh'
          refine ⟨g, cap, row, by rw [← e2], hb, setRow_heap w g cur row e _ hh, hlc', hcm, ?_, ?_⟩
          · rw [← hrow]
            simp only [List.size_toArray, List.length_append, List.length_take, List.length_drop, hle, Array.length_toList]
            omega
          · rw [← htk', ← hrow, Nat.add_zero]
            have hl : (m.take k).length = k := by rw [List.length_take]; omega
            rw [hl]
            show List.take (k * sz) (List.take (k * sz) cur.toList ++ (Builtin.zeroCells z.cells (n - k)).toList ++ _) = _
            rw [List.append_assoc, List.take_append_of_le_length (by rw [List.length_take, Array.length_toList]; omega), List.take_take, Nat.min_self]
theorem ext_row {a b : World} (h : Ext a b) (row : Option Nat) : a.grownBy b row := ⟨h.os, h.tape, h.output, h.size, fun i hi _ => h.block i hi⟩
theorem row_below {a b : World} {base g : Nat} (h : a.grownBy b (some g)) (hb : base ≤ a.heap.size) (hg : base ≤ g) : Below base a b := (Below.refl base a).grown h hb (fun k e => by injection e with e; omega)
theorem idxF_cases {α : Type} (p : α → Bool) (l : List α) : (idxF p l = -1 ∧ ∀ x ∈ l, p x = false) ∨ ∃ k x, idxF p l = (k : Nat) ∧ l[k]? = some x ∧ p x = true ∧ ∀ j y, j < k → l[j]? = some y → p y = false := by
  cases h : l.findIdx? p with
  | none =>
    rw [List.findIdx?_eq_none_iff] at h
    exact .inl ⟨idxF_none p l h, h⟩
  | some k =>
    rw [List.findIdx?_eq_some_iff_getElem] at h
    obtain ⟨hk, hp, hj⟩ := h
    have hj' : ∀ j y, j < k → l[j]? = some y → p y = false := fun j y hjk hy => by
      have h1 := hj j hjk
      obtain ⟨h2, h3⟩ := List.getElem?_eq_some_iff.1 hy
      rw [h3] at h1
      simpa using h1
    exact .inr ⟨k, l[k], idxF_some p l k _ (List.getElem?_eq_getElem hk) hp hj', List.getElem?_eq_getElem hk, hp, hj'⟩

theorem f88_any (tf : FuncId) (tlb : Array Value) (et : ∀ args w, (callFunc tf args).run Tryz.prog w = .ok (.enter tf args) w) (p : Draw → Bool) (l : List Draw) (v : Value) (base : Nat) (w : World) (hb : base ≤ w.heap.size) (ho : Own encD 37 4 w base v l)
    (hp : ∀ W x, Below base w W → Calls Tryz.prog tf (#[valD x] ++ tlb) W fun e W' => e = .returned (.bool (p x)) ∧ Ext W W') :
    Calls Tryz.prog 88 #[v, .func (.func tf) #[] tlb] w fun e w' => ∃ v', e = .returned v' ∧ Own encD 37 4 w' base v' (l.filter fun x => !p x) ∧ w.grownBy w' v.ownBlock := by
  have HP := Lib.hid hp
  have HO := Lib.hid ho
  have hsl : SlD w v l := Own.sl (enc := encD) (fun _ => rfl) ho
  obtain ⟨A, n, c, rfl, hn, hlc, hcm⟩ := hsl.form
  have HSL := Lib.hid hsl
  have HPR := Lib.hid (show Pred valD tf tlb p l w from fun W x _ hE => hp W x (Below.mono hE hb))
  clear hp ho hsl
  go_enter Tryz.func88, Tryz.ntmps88
  go_wp2_with fail
  refine (f103_any tf tlb et p l _ w HSL.out HPR.out).mono ?_
  rintro e w1 ⟨rfl, hE⟩
  have HB1 := Lib.hid hE
  have HO1 := Lib.hid (HO.out.ext hE)
  have hz1 := hE.size
  rcases idxF_cases p l with ⟨hi, hall⟩ | ⟨k, x, hi, hx, hpx, hlt⟩
  · rw [hi]
    have HF := Lib.hid (show (l.filter fun x => !p x) = l from List.filter_eq_self.2 fun x hx => by rw [hall x hx]; rfl)
    clear hE hall
    go_wp2
    go_ret
    exact ⟨_, rfl, by rw [HF.out]; exact HO1.out, ext_row HB1.out _⟩
  · rw [hi]
    have hkn : k < n := by rw [hn.out]; exact (List.getElem?_eq_some_iff.1 hx).1
    have hnz : (n : Int) ≤ 9223372036854775807 := by omega
    have hk1 : ¬ ((k : Int) = -1) := by omega
    have HF0 := Lib.hid (show l.take k = (l.take (k + 1)).filter fun x => !p x by
      rw [List.take_add_one, hx, List.filter_append]
      have h1 : (l.take k).filter (fun x => !p x) = l.take k := List.filter_eq_self.2 fun y hy => by
        obtain ⟨j, hj⟩ := List.mem_iff_getElem?.1 hy
        rw [List.getElem?_take] at hj
        split at hj
        · rename_i hjk
          rw [hlt j y hjk hj]; rfl
        · cases hj
      rw [h1]
      simp [hpx])
    obtain ⟨g, cap, hv, hbg⟩ : ∃ g cap, (Value.slice A n c) = .slice (some ⟨g, 0, none⟩) n cap ∧ base ≤ g := by
      obtain ⟨m, rfl⟩ : ∃ m, n = m + 1 := ⟨n - 1, by omega⟩
      have h9 := HO.out
      unfold Own at h9
      rw [← hn.out] at h9
      obtain ⟨g, cap, e1, e2⟩ := own_succ h9
      exact ⟨g, cap, e1, e2⟩
    injection hv with hv1 _ hv3
    subst hv1 hv3
    clear hE hi hx hpx hlt
    go_wp2
    go_loopg [5, 6, 7] n (fun gg s5 s6 _ wr => ∃ (i j : Nat) (m : List Draw), i < j ∧ j ≤ n ∧ n - j ≤ gg ∧ s5 = .int .i64 (i : Int) ∧ s6 = .int .i64 (j : Int) ∧ m.length = n ∧ Aside (Own encD 37 4 wr base (.slice (some ⟨g, 0, none⟩) n c) m) ∧ Aside (m.take i = (l.take j).filter fun x => !p x) ∧ Aside (∀ t, j ≤ t → m[t]? = l[t]?) ∧ Aside (w.grownBy wr (some g)))
    case atStart => exact ⟨k, k + 1, l, by omega, by omega, by omega, rfl, by simp, hn.out.symm, HO1.out, HF0.out, fun t _ => rfl, ext_row HB1.out _⟩
    case round =>
      obtain ⟨i, j, m, hij, hj, hgg, rfl, rfl, hml, OM, MT, MD, BW⟩ := hrel
      have hbs := BW.out.size
      by_cases hjn : j < n
      · have hjz : (j : Int) < (n : Int) := by omega
        have hslm : SlD wr (.slice (some ⟨g, 0, none⟩) n c) m := Own.sl (enc := encD) (fun _ => rfl) OM.out
        obtain ⟨bb, off, x, e1, hx, hbb, hxc⟩ := hslm.at_ hjn
        injection e1 with e1
        injection e1 with e1 e2 _
        subst e1 e2
        obtain ⟨c0, c1, c2, c3⟩ := SlD.cells hxc (Ext.refl _)
        simp only [Nat.zero_add] at c0 c1 c2 c3
        have HC := Lib.hid (HP.out (wr.alloc (.cells #[.int .i64 x.number, .int .i64 x.layer, .int .i64 x.grade.lo, .int .i64 x.grade.hi] 37)) x ((row_below BW.out hb hbg).alloc (by omega) _))
        have hlx : l[j]? = some x := by rw [← MD.out j (Nat.le_refl _)]; exact hx
        have hxx : m[j]? = some x := hx
        cases hpx : p x with
        | true =>
          rw [hpx] at HC
          have HMT := Lib.hid (show m.take i = (l.take (j + 1)).filter fun x => !p x by rw [MT.out, List.take_add_one, hlx, List.filter_append]; simp [hpx])
          clear hxc hslm hx
          go_wp2_with (go_at_fn tf; refine HC.out.mono ?_; rintro e w' ⟨rfl, hE'⟩)
          have EX := Lib.hid (show Ext wr w' from (Ext.al _ _).trans hE')
          go_wp2
          go_roundg (n - (j + 1))
          case measure => omega
          case rel => exact ⟨i, j + 1, m, by omega, by omega, by omega, rfl, by simp, hml, OM.out.ext EX.out, HMT.out, fun t ht => MD.out t (by omega), grown_ext BW.out EX.out⟩
        | false =>
          rw [hpx] at HC
          have HMT := Lib.hid (show (m.set i x).take (i + 1) = (l.take (j + 1)).filter fun x => !p x by
            rw [List.take_add_one, List.getElem?_set, if_pos rfl, if_pos (by omega), List.take_set_of_le (Nat.le_refl _), MT.out, List.take_add_one, hlx, List.filter_append]
            simp [hpx])
          have hin : i < n := by omega
          have hiz : (i : Int) < (n : Int) := by omega
          clear hxc hslm hx
          go_wp2_with fail
          refine HC.out.mono ?_
          rintro e w' ⟨rfl, hE'⟩
          have EX := Lib.hid (show Ext wr w' from (Ext.al _ _).trans hE')
          have HBX := Lib.hid ((Blk.new wr 37 #[.int .i64 x.number, .int .i64 x.layer, .int .i64 x.grade.lo, .int .i64 x.grade.hi]).ext hE')
          have OM2 := OM.out.ext EX.out
          have hslm : SlD w' (.slice (some ⟨g, 0, none⟩) n c) m := Own.sl (enc := encD) (fun _ => rfl) OM2
          obtain ⟨bb, off, y, e1, hy, hbb2, hyc⟩ := hslm.at_ hin
          injection e1 with e1
          injection e1 with e1 e2 _
          subst e1 e2
          obtain ⟨d0, d1, d2, d3⟩ := SlD.cells hyc (Ext.refl _)
          simp only [Nat.zero_add] at d0 d1 d2 d3
          have df : ∀ k, w'.frozen? ⟨g, k, none⟩ = false := fun k => own_frozen OM2 k
          have b0 := HBX.out.cell 0
          have b1 := HBX.out.cell 1
          have b2 := HBX.out.cell 2
          have b3 := HBX.out.cell 3
          have bl := HBX.out.lt
          simp at b0 b1 b2 b3
          have HOM2 := Lib.hid OM2
          clear hslm hyc hy OM2 c0 c1 c2 c3 hE'
          go_wp2
          go_roundg (n - (j + 1))
          case measure => omega
          case rel => exact ⟨i + 1, j + 1, m.set i x, by omega, by omega, by omega, by simp, by simp, by rw [List.length_set]; exact hml, own_put4 (enc := encD) (fun _ => rfl) (x := x) rfl HOM2.out hml.symm hin, HMT.out, fun t ht => by rw [List.getElem?_set, if_neg (by omega)]; exact MD.out t (by omega), grown_set (grown_set (grown_set (grown_set (grown_ext BW.out EX.out) (p := ⟨g, _, none⟩) (.inl rfl) _) (p := ⟨g, _, none⟩) (.inl rfl) _) (p := ⟨g, _, none⟩) (.inl rfl) _) (p := ⟨g, _, none⟩) (.inl rfl) _⟩
      · have hje : j = n := by omega
        subst hje
        obtain ⟨w', hr, HOC, hgr⟩ := run_clear_own (enc := encD) (sz := 4) (fun _ => rfl) (t := 24) (e := 37) (ty := 0) (z := .agg #[.int .i64 0, .int .i64 0, .int .i64 0, .int .i64 0]) Tryz.underlying24 Tryz.zeroValue37 rfl (by decide) (by decide) (k := i) (c := c - i) OM.out hml.symm (by omega)
        have HOC := Lib.hid HOC
        have HF := Lib.hid (show m.take i = l.filter fun x => !p x by rw [MT.out, List.take_of_length_le (by have := hn.out; omega)])
        have HBE := Lib.hid (show w.grownBy w' (some g) from grown_tr BW.out hgr)
        have hin : i ≤ j := by omega
        have hiz : (i : Int) ≤ (j : Int) := by omega
        clear hgr
        go_wp2
        go_ret
        exact ⟨_, rfl, by rw [← HF.out]; exact HOC.out, HBE.out⟩
theorem f91_any (tf : FuncId) (tlb : Array Value) (et : ∀ args w, (callFunc tf args).run Tryz.prog w = .ok (.enter tf args) w) (p : Weigh → Bool) (l : List Weigh) (v : Value) (base : Nat) (w : World) (hb : base ≤ w.heap.size) (ho : Own encW 41 4 w base v l)
    (hp : ∀ W x, Below base w W → Calls Tryz.prog tf (#[valW x] ++ tlb) W fun e W' => e = .returned (.bool (p x)) ∧ Ext W W') :
    Calls Tryz.prog 91 #[v, .func (.func tf) #[] tlb] w fun e w' => ∃ v', e = .returned v' ∧ Own encW 41 4 w' base v' (l.filter fun x => !p x) ∧ w.grownBy w' v.ownBlock := by
  have HP := Lib.hid hp
  have HO := Lib.hid ho
  have hsl : SlW w v l := Own.sl (enc := encW) (fun _ => rfl) ho
  obtain ⟨A, n, c, rfl, hn, hlc, hcm⟩ := hsl.form
  have HSL := Lib.hid hsl
  have HPR := Lib.hid (show Pred valW tf tlb p l w from fun W x _ hE => hp W x (Below.mono hE hb))
  clear hp ho hsl
  go_enter Tryz.func91, Tryz.ntmps91
  go_wp2_with fail
  refine (f81_any tf tlb et p l _ w HSL.out HPR.out).mono ?_
  rintro e w1 ⟨rfl, hE⟩
  have HB1 := Lib.hid hE
  have HO1 := Lib.hid (HO.out.ext hE)
  have hz1 := hE.size
  rcases idxF_cases p l with ⟨hi, hall⟩ | ⟨k, x, hi, hx, hpx, hlt⟩
  · rw [hi]
    have HF := Lib.hid (show (l.filter fun x => !p x) = l from List.filter_eq_self.2 fun x hx => by rw [hall x hx]; rfl)
    clear hE hall
    go_wp2
    go_ret
    exact ⟨_, rfl, by rw [HF.out]; exact HO1.out, ext_row HB1.out _⟩
  · rw [hi]
    have hkn : k < n := by rw [hn.out]; exact (List.getElem?_eq_some_iff.1 hx).1
    have hnz : (n : Int) ≤ 9223372036854775807 := by omega
    have hk1 : ¬ ((k : Int) = -1) := by omega
    have HF0 := Lib.hid (show l.take k = (l.take (k + 1)).filter fun x => !p x by
      rw [List.take_add_one, hx, List.filter_append]
      have h1 : (l.take k).filter (fun x => !p x) = l.take k := List.filter_eq_self.2 fun y hy => by
        obtain ⟨j, hj⟩ := List.mem_iff_getElem?.1 hy
        rw [List.getElem?_take] at hj
        split at hj
        · rename_i hjk
          rw [hlt j y hjk hj]; rfl
        · cases hj
      rw [h1]
      simp [hpx])
    obtain ⟨g, cap, hv, hbg⟩ : ∃ g cap, (Value.slice A n c) = .slice (some ⟨g, 0, none⟩) n cap ∧ base ≤ g := by
      obtain ⟨m, rfl⟩ : ∃ m, n = m + 1 := ⟨n - 1, by omega⟩
      have h9 := HO.out
      unfold Own at h9
      rw [← hn.out] at h9
      obtain ⟨g, cap, e1, e2⟩ := own_succ h9
      exact ⟨g, cap, e1, e2⟩
    injection hv with hv1 _ hv3
    subst hv1 hv3
    clear hE hi hx hpx hlt
    go_wp2
    go_loopg [5, 6, 7] n (fun gg s5 s6 _ wr => ∃ (i j : Nat) (m : List Weigh), i < j ∧ j ≤ n ∧ n - j ≤ gg ∧ s5 = .int .i64 (i : Int) ∧ s6 = .int .i64 (j : Int) ∧ m.length = n ∧ Aside (Own encW 41 4 wr base (.slice (some ⟨g, 0, none⟩) n c) m) ∧ Aside (m.take i = (l.take j).filter fun x => !p x) ∧ Aside (∀ t, j ≤ t → m[t]? = l[t]?) ∧ Aside (w.grownBy wr (some g)))
    case atStart => exact ⟨k, k + 1, l, by omega, by omega, by omega, rfl, by simp, hn.out.symm, HO1.out, HF0.out, fun t _ => rfl, ext_row HB1.out _⟩
    case round =>
      obtain ⟨i, j, m, hij, hj, hgg, rfl, rfl, hml, OM, MT, MD, BW⟩ := hrel
      have hbs := BW.out.size
      by_cases hjn : j < n
      · have hjz : (j : Int) < (n : Int) := by omega
        have hslm : SlW wr (.slice (some ⟨g, 0, none⟩) n c) m := Own.sl (enc := encW) (fun _ => rfl) OM.out
        obtain ⟨bb, off, x, e1, hx, hbb, hxc⟩ := hslm.at_ hjn
        injection e1 with e1
        injection e1 with e1 e2 _
        subst e1 e2
        obtain ⟨c0, c1, c2, c3⟩ := SlW.cells hxc (Ext.refl _)
        simp only [Nat.zero_add] at c0 c1 c2 c3
        have HC := Lib.hid (HP.out (wr.alloc (.cells #[.int .i64 x.number, .int .i64 x.pounds, .int .i64 x.damp.lo, .int .i64 x.damp.hi] 41)) x ((row_below BW.out hb hbg).alloc (by omega) _))
        have hlx : l[j]? = some x := by rw [← MD.out j (Nat.le_refl _)]; exact hx
        have hxx : m[j]? = some x := hx
        cases hpx : p x with
        | true =>
          rw [hpx] at HC
          have HMT := Lib.hid (show m.take i = (l.take (j + 1)).filter fun x => !p x by rw [MT.out, List.take_add_one, hlx, List.filter_append]; simp [hpx])
          clear hxc hslm hx
          go_wp2_with (go_at_fn tf; refine HC.out.mono ?_; rintro e w' ⟨rfl, hE'⟩)
          have EX := Lib.hid (show Ext wr w' from (Ext.al _ _).trans hE')
          go_wp2
          go_roundg (n - (j + 1))
          case measure => omega
          case rel => exact ⟨i, j + 1, m, by omega, by omega, by omega, rfl, by simp, hml, OM.out.ext EX.out, HMT.out, fun t ht => MD.out t (by omega), grown_ext BW.out EX.out⟩
        | false =>
          rw [hpx] at HC
          have HMT := Lib.hid (show (m.set i x).take (i + 1) = (l.take (j + 1)).filter fun x => !p x by
            rw [List.take_add_one, List.getElem?_set, if_pos rfl, if_pos (by omega), List.take_set_of_le (Nat.le_refl _), MT.out, List.take_add_one, hlx, List.filter_append]
            simp [hpx])
          have hin : i < n := by omega
          have hiz : (i : Int) < (n : Int) := by omega
          clear hxc hslm hx
          go_wp2_with fail
          refine HC.out.mono ?_
          rintro e w' ⟨rfl, hE'⟩
          have EX := Lib.hid (show Ext wr w' from (Ext.al _ _).trans hE')
          have HBX := Lib.hid ((Blk.new wr 41 #[.int .i64 x.number, .int .i64 x.pounds, .int .i64 x.damp.lo, .int .i64 x.damp.hi]).ext hE')
          have OM2 := OM.out.ext EX.out
          have hslm : SlW w' (.slice (some ⟨g, 0, none⟩) n c) m := Own.sl (enc := encW) (fun _ => rfl) OM2
          obtain ⟨bb, off, y, e1, hy, hbb2, hyc⟩ := hslm.at_ hin
          injection e1 with e1
          injection e1 with e1 e2 _
          subst e1 e2
          obtain ⟨d0, d1, d2, d3⟩ := SlW.cells hyc (Ext.refl _)
          simp only [Nat.zero_add] at d0 d1 d2 d3
          have df : ∀ k, w'.frozen? ⟨g, k, none⟩ = false := fun k => own_frozen OM2 k
          have b0 := HBX.out.cell 0
          have b1 := HBX.out.cell 1
          have b2 := HBX.out.cell 2
          have b3 := HBX.out.cell 3
          have bl := HBX.out.lt
          simp at b0 b1 b2 b3
          have HOM2 := Lib.hid OM2
          clear hslm hyc hy OM2 c0 c1 c2 c3 hE'
          go_wp2
          go_roundg (n - (j + 1))
          case measure => omega
          case rel => exact ⟨i + 1, j + 1, m.set i x, by omega, by omega, by omega, by simp, by simp, by rw [List.length_set]; exact hml, own_put4 (enc := encW) (fun _ => rfl) (x := x) rfl HOM2.out hml.symm hin, HMT.out, fun t ht => by rw [List.getElem?_set, if_neg (by omega)]; exact MD.out t (by omega), grown_set (grown_set (grown_set (grown_set (grown_ext BW.out EX.out) (p := ⟨g, _, none⟩) (.inl rfl) _) (p := ⟨g, _, none⟩) (.inl rfl) _) (p := ⟨g, _, none⟩) (.inl rfl) _) (p := ⟨g, _, none⟩) (.inl rfl) _⟩
      · have hje : j = n := by omega
        subst hje
        obtain ⟨w', hr, HOC, hgr⟩ := run_clear_own (enc := encW) (sz := 4) (fun _ => rfl) (t := 25) (e := 41) (ty := 0) (z := .agg #[.int .i64 0, .int .i64 0, .int .i64 0, .int .i64 0]) Tryz.underlying25 Tryz.zeroValue41 rfl (by decide) (by decide) (k := i) (c := c - i) OM.out hml.symm (by omega)
        have HOC := Lib.hid HOC
        have HF := Lib.hid (show m.take i = l.filter fun x => !p x by rw [MT.out, List.take_of_length_le (by have := hn.out; omega)])
        have HBE := Lib.hid (show w.grownBy w' (some g) from grown_tr BW.out hgr)
        have hin : i ≤ j := by omega
        have hiz : (i : Int) ≤ (j : Int) := by omega
        clear hgr
        go_wp2
        go_ret
        exact ⟨_, rfl, by rw [← HF.out]; exact HOC.out, HBE.out⟩
end Go.Proofs.YtfhmfbhpehldpaaGreatDoor
/- slices.Clone at draws and weighings; core.copied. -/
namespace Go.Proofs.YtfhmfbhpehldpaaGreatDoor
open Go.RowKit Go.Shelf Go.Lib
set_option maxRecDepth 100000
set_option linter.unusedSimpArgs false

@[go_sem] theorem eql24nil (w : World) (a : Option Addr) (n c : Nat) : (binOp .eql 24 (.slice a n c) (.slice none 0 0)).run Tryz.prog w = .ok (.bool a.isNone) w := Lib.run_eql_slice_nil w 24 37 a n c 0 0 Tryz.underlying24
theorem wpList_copyD {ops : Array Oper} {rest : List Oper} {o : Oper} {a : Act} {Q : Exit → Act → World → Prop} {W : World} (hgd : o.guard = none) (s x : Operand)
    (ho : o.op = .call { callee := .builtin .append, args := #[s, x], argTypes := #[24, 24] }) {base g : Nat} (hs : a.eval s = .slice (some ⟨g, 0, none⟩) 0 0) {v : Value} (hx : a.eval x = v)
    (hB : Blk W g 37 #[]) (hg : base ≤ g) (hW : base ≤ W.heap.size) {l : List Draw} (hl : SlD W v l) (hlen : l.length ≤ 1000)
    (h : ∀ v' W', Own encD 37 4 W' base v' l → Ext W W' → wpList Tryz.prog ops Q rest (a.put o.dst v') W') : wpList Tryz.prog ops Q (o :: rest) a W := by
  obtain ⟨v', W', hr, h1, h2⟩ := run_copy (t := 24) (ty := o.type) (enc := encD) (sz := 4) Tryz.underlying24 info37x rfl (by decide) (by decide) (fun _ => rfl) hB hg hW hl hlen
  refine wpList_plain hgd fun K hK => ?_
  unfold Oper.wp execOp
  simp only [ho, resolve, invoke, builtin, Sem.run_bind, Sem.run_pure, Result.andThen_ok, List.map_toArray, List.map_cons, List.map_nil, hs, hx, hr]
  exact hK _ _ (h v' W' h1 h2)
theorem cloneD_any (v : Value) (l : List Draw) (w : World) (hs : SlD w v l) (hlen : l.length ≤ 1000) :
    Calls Tryz.prog 73 #[v] w fun e w' => ∃ v', e = .returned v' ∧ Own encD 37 4 w' w.heap.size v' l ∧ Ext w w' := by
  have HS := Lib.hid hs
  have HL := Lib.hid hlen
  obtain ⟨A, n, c, rfl, hn, hlc, hcm⟩ := hs.form
  have HN := Lib.hid (show A.isNone = true → l = [] ∧ n = 0 from fun h => by
    obtain ⟨A', c', hv, _, _, hx⟩ := hs
    injection hv with e1 e2 e3
    subst e1 e3
    have hl0 : l = [] := by
      by_cases h0 : 0 < l.length
      · obtain ⟨_, _, h1, _⟩ := hx h0; rw [h1] at h; cases h
      · exact List.eq_nil_of_length_eq_zero (by omega)
    exact ⟨hl0, by rw [e2, hl0]; rfl⟩)
  clear hs hlen hn hlc hcm
  cases hN : A.isNone with
  | true =>
    obtain ⟨rfl, rfl⟩ := HN.out hN
    clear HS HL HN
    go_enter Tryz.func73, Tryz.ntmps73
    go_wp2
    go_ret
    exact ⟨_, rfl, Own.nil _ _, Ext.refl _⟩
  | false =>
    clear HN
    go_enter Tryz.func73, Tryz.ntmps73
    go_wp2_with (at_builtin; refine wpList_copyD rfl (.tmp 5) (.tmp 6) rfl (base := w.heap.size) (g := w.heap.size) rfl rfl (Blk.new _ _ _) (Nat.le_refl _) (by simp) (HS.out.ext (Ext.al _ _)) HL.out ?_)
    intro v1 w1 hown hext
    have HE := Lib.hid (show Ext w w1 from (Ext.al _ _).trans hext)
    go_wp2
    go_ret
    exact ⟨_, rfl, hown, HE.out⟩
@[go_sem] theorem eql25nil (w : World) (a : Option Addr) (n c : Nat) : (binOp .eql 25 (.slice a n c) (.slice none 0 0)).run Tryz.prog w = .ok (.bool a.isNone) w := Lib.run_eql_slice_nil w 25 41 a n c 0 0 Tryz.underlying25
theorem wpList_copyW {ops : Array Oper} {rest : List Oper} {o : Oper} {a : Act} {Q : Exit → Act → World → Prop} {W : World} (hgd : o.guard = none) (s x : Operand)
    (ho : o.op = .call { callee := .builtin .append, args := #[s, x], argTypes := #[25, 25] }) {base g : Nat} (hs : a.eval s = .slice (some ⟨g, 0, none⟩) 0 0) {v : Value} (hx : a.eval x = v)
    (hB : Blk W g 41 #[]) (hg : base ≤ g) (hW : base ≤ W.heap.size) {l : List Weigh} (hl : SlW W v l) (hlen : l.length ≤ 1000)
    (h : ∀ v' W', Own encW 41 4 W' base v' l → Ext W W' → wpList Tryz.prog ops Q rest (a.put o.dst v') W') : wpList Tryz.prog ops Q (o :: rest) a W := by
  obtain ⟨v', W', hr, h1, h2⟩ := run_copy (t := 25) (ty := o.type) (enc := encW) (sz := 4) Tryz.underlying25 info41x rfl (by decide) (by decide) (fun _ => rfl) hB hg hW hl hlen
  refine wpList_plain hgd fun K hK => ?_
  unfold Oper.wp execOp
  simp only [ho, resolve, invoke, builtin, Sem.run_bind, Sem.run_pure, Result.andThen_ok, List.map_toArray, List.map_cons, List.map_nil, hs, hx, hr]
  exact hK _ _ (h v' W' h1 h2)
theorem cloneW_any (v : Value) (l : List Weigh) (w : World) (hs : SlW w v l) (hlen : l.length ≤ 1000) :
    Calls Tryz.prog 74 #[v] w fun e w' => ∃ v', e = .returned v' ∧ Own encW 41 4 w' w.heap.size v' l ∧ Ext w w' := by
  have HS := Lib.hid hs
  have HL := Lib.hid hlen
  obtain ⟨A, n, c, rfl, hn, hlc, hcm⟩ := hs.form
  have HN := Lib.hid (show A.isNone = true → l = [] ∧ n = 0 from fun h => by
    obtain ⟨A', c', hv, _, _, hx⟩ := hs
    injection hv with e1 e2 e3
    subst e1 e3
    have hl0 : l = [] := by
      by_cases h0 : 0 < l.length
      · obtain ⟨_, _, h1, _⟩ := hx h0; rw [h1] at h; cases h
      · exact List.eq_nil_of_length_eq_zero (by omega)
    exact ⟨hl0, by rw [e2, hl0]; rfl⟩)
  clear hs hlen hn hlc hcm
  cases hN : A.isNone with
  | true =>
    obtain ⟨rfl, rfl⟩ := HN.out hN
    clear HS HL HN
    go_enter Tryz.func74, Tryz.ntmps74
    go_wp2
    go_ret
    exact ⟨_, rfl, Own.nil _ _, Ext.refl _⟩
  | false =>
    clear HN
    go_enter Tryz.func74, Tryz.ntmps74
    go_wp2_with (at_builtin; refine wpList_copyW rfl (.tmp 5) (.tmp 6) rfl (base := w.heap.size) (g := w.heap.size) rfl rfl (Blk.new _ _ _) (Nat.le_refl _) (by simp) (HS.out.ext (Ext.al _ _)) HL.out ?_)
    intro v1 w1 hown hext
    have HE := Lib.hid (show Ext w w1 from (Ext.al _ _).trans hext)
    go_wp2
    go_ret
    exact ⟨_, rfl, hown, HE.out⟩

/-- A slice that does not lie in block g. -/
def GoodS {α : Type} (enc : α → List Value) (g : Nat) (l : List α) (v : Value) (W : World) : Prop := Sl enc 4 W v l ∧ ∀ a n c b o, v = .slice a n c → a = some ⟨b, o, none⟩ → 0 < l.length → b ≠ g
theorem GoodS.ext {α : Type} {enc : α → List Value} {g : Nat} {l : List α} {v : Value} {W W' : World} (h : GoodS enc g l v W) (e : Ext W W') : GoodS enc g l v W' := ⟨h.1.ext e, h.2⟩
theorem GoodS.set {α : Type} {enc : α → List Value} {g i : Nat} {l : List α} {v : Value} {W : World} (h : GoodS enc g l v W) (u : Value) : GoodS enc g l v (W.setCell ⟨g, i, none⟩ u) := by
  obtain ⟨⟨a, c, hv, hl, hc, hx⟩, hf⟩ := h
  refine ⟨⟨a, c, hv, hl, hc, fun h0 => ?_⟩, hf⟩
  obtain ⟨b, off, hA, hb, hcell⟩ := hx h0
  exact ⟨b, off, hA, by simpa [World.setCell] using hb, fun k x hk j w hw => (World.cell?_of_block (a := ⟨b, _, none⟩) (Below.heap_setCell W ⟨g, i, none⟩ u b (hf a _ c b off hv hA h0))).trans (hcell k x hk j w hw)⟩
theorem GoodS.own {α : Type} {enc : α → List Value} {g base : Nat} {e : TypeId} {l : List α} {v : Value} {W : World} (henc : ∀ x, (enc x).length = 4) (h : Own enc e 4 W base v l) (hg : g < base) : GoodS enc g l v W := by
  refine ⟨Own.sl henc h, fun a n c b o hv ha _ => ?_⟩
  rcases h.2 with ⟨h2, _⟩ | ⟨g', cap', cur, e1, hb, _⟩
  · rw [hv] at h2; injection h2 with h2; rw [ha] at h2; cases h2
  · rw [hv] at e1; injection e1 with e1; rw [ha] at e1; injection e1 with e1; injection e1 with e1; omega
theorem GoodS.old {α : Type} {enc : α → List Value} {g : Nat} {l : List α} {v : Value} {w W : World} (h : Sl enc 4 w v l) (hg : w.heap.size ≤ g) (e : Ext w W) : GoodS enc g l v W := by
  refine ⟨h.ext e, fun a n c b o hv ha h0 => ?_⟩
  obtain ⟨a', c', hv', _, _, hx⟩ := h
  obtain ⟨b', off, hA, hb, _⟩ := hx h0
  rw [hv'] at hv
  injection hv with hv
  rw [← hv, hA] at ha
  injection ha with ha
  injection ha with ha
  omega
/-- Cell i of block g holds a fresh slice of l. -/
def FrC {α : Type} (enc : α → List Value) (e : TypeId) (base g i : Nat) (l : List α) (W : World) : Prop := ∃ v, W.cell? ⟨g, i, none⟩ = some v ∧ Own enc e 4 W base v l
theorem FrC.ext {α : Type} {enc : α → List Value} {e : TypeId} {base g i : Nat} {l : List α} {W W' : World} (h : FrC enc e base g i l W) (hE : Ext W W') : FrC enc e base g i l W' := by
  obtain ⟨v, h1, h2⟩ := h
  exact ⟨v, (hE.cells.1 _ _ (is_cells h1).1).trans h1, h2.ext hE⟩
def RD (b : Bale) (base g : Nat) (W W' : World) : Prop :=
  (∀ v, GoodS encD g b.draws v W → GoodS encD g b.draws v W') ∧ (∀ v, GoodS encW g b.weighs v W → GoodS encW g b.weighs v W') ∧ (∀ v, Own encD 37 4 W base v b.draws → Own encD 37 4 W' base v b.draws) ∧ (∀ v, Own encW 41 4 W base v b.weighs → Own encW 41 4 W' base v b.weighs) ∧
    (FrC encD 37 base g 4 b.draws W → FrC encD 37 base g 4 b.draws W') ∧ (FrC encW 41 base g 5 b.weighs W → FrC encW 41 base g 5 b.weighs W')
theorem RD.refl {b : Bale} {base g : Nat} (W : World) : RD b base g W W := ⟨fun _ h => h, fun _ h => h, fun _ h => h, fun _ h => h, fun h => h, fun h => h⟩
theorem RD.ext {b : Bale} {base g : Nat} {W W' : World} (e : Ext W W') : RD b base g W W' := ⟨fun _ h => h.ext e, fun _ h => h.ext e, fun _ h => h.ext e, fun _ h => h.ext e, fun h => h.ext e, fun h => h.ext e⟩
theorem RD.set4 {b : Bale} {base g : Nat} {W : World} {dx : Value} (hg : g < base) (hd : Own encD 37 4 W base dx b.draws) : RD b base g W (W.setCell ⟨g, 4, none⟩ dx) ∧ ((∃ u, W.cell? ⟨g, 4, none⟩ = some u) → FrC encD 37 base g 4 b.draws (W.setCell ⟨g, 4, none⟩ dx)) :=
  have key : (∃ u, W.cell? ⟨g, 4, none⟩ = some u) → FrC encD 37 base g 4 b.draws (W.setCell ⟨g, 4, none⟩ dx) := fun ⟨_, hu⟩ => ⟨dx, World.cell?_setCell_same (h := hu) .., hd.far hg _⟩
  ⟨⟨fun _ h => h.set _, fun _ h => h.set _, fun _ h => h.far hg _, fun _ h => h.far hg _, fun ⟨u, hu, _⟩ => key ⟨u, hu⟩, fun ⟨v, h1, h2⟩ => ⟨v, (World.cell?_setCell_other (h := by intro e; injection e with _ e _; omega) ..).trans h1, h2.far hg _⟩⟩, key⟩
theorem RD.set5 {b : Bale} {base g : Nat} {W : World} {wx : Value} (hg : g < base) (hd : Own encW 41 4 W base wx b.weighs) : RD b base g W (W.setCell ⟨g, 5, none⟩ wx) ∧ ((∃ u, W.cell? ⟨g, 5, none⟩ = some u) → FrC encW 41 base g 5 b.weighs (W.setCell ⟨g, 5, none⟩ wx)) :=
  have key : (∃ u, W.cell? ⟨g, 5, none⟩ = some u) → FrC encW 41 base g 5 b.weighs (W.setCell ⟨g, 5, none⟩ wx) := fun ⟨_, hu⟩ => ⟨wx, World.cell?_setCell_same (h := hu) .., hd.far hg _⟩
  ⟨⟨fun _ h => h.set _, fun _ h => h.set _, fun _ h => h.far hg _, fun _ h => h.far hg _, fun ⟨v, h1, h2⟩ => ⟨v, (World.cell?_setCell_other (h := by intro e; injection e with _ e _; omega) ..).trans h1, h2.far hg _⟩, fun ⟨u, hu, _⟩ => key ⟨u, hu⟩⟩, key⟩
/-- The world while a bale is copied: but for block g nothing has turned, and block g is the bale's. -/
def CD (b : Bale) (w : World) (g : Nat) (W : World) : Prop := w.grownBy W (some g) ∧ ∃ dx wx, Blk W g 27 #[.int .i64 b.id, .int .i64 b.layers, .int .i64 b.dry.lo, .int .i64 b.dry.hi, dx, wx] ∧ GoodS encD g b.draws dx W ∧ GoodS encW g b.weighs wx W
theorem CD.ext {b : Bale} {w : World} {g : Nat} {W W' : World} (h : CD b w g W) (e : Ext W W') : CD b w g W' := by
  obtain ⟨h1, dx, wx, h2, h3, h4⟩ := h
  exact ⟨grown_ext h1 e, dx, wx, h2.ext e, h3.ext e, h4.ext e⟩

set_option maxHeartbeats 1000000 in
theorem copied_any (b : Bale) (dv wv : Value) (w : World) (hd : SlD w dv b.draws) (hw : SlW w wv b.weighs) (hld : b.draws.length ≤ 1000) (hlw : b.weighs.length ≤ 1000) :
    Calls Tryz.prog 34 #[valB b dv wv] w fun e w' => (∃ v, e = .returned v ∧ TwinV b w.heap.size v w') ∧ Ext w w' := by
  have HD := Lib.hid hd
  have HW := Lib.hid hw
  obtain ⟨A, n, cp, rfl, hn, hlc, hcm⟩ := hd.form
  obtain ⟨A2, n2, cp2, rfl, hn2, hlc2, hcm2⟩ := hw.form
  clear hd hw
  go_enter Tryz.func34, Tryz.ntmps34
  go_wp2
  generalize hW0 : (w.alloc (.cells #[.int .i64 b.id, .int .i64 b.layers, .int .i64 b.dry.lo, .int .i64 b.dry.hi, .slice A n cp, .slice A2 n2 cp2] 27)).alloc (.cells #[.int .i64 0, .int .i64 0, .int .i64 0, .int .i64 0, .slice none 0 0, .slice none 0 0] 27) = w1
  have HE := Lib.hid (show Ext w w1 from hW0 ▸ ((Ext.al w _).alloc _))
  have hsz : w1.heap.size = w.heap.size + 2 := by rw [← hW0]; simp
  have HB1 := Lib.hid (show Blk w1 w.heap.size 27 #[.int .i64 b.id, .int .i64 b.layers, .int .i64 b.dry.lo, .int .i64 b.dry.hi, .slice A n cp, .slice A2 n2 cp2] from hW0 ▸ ((Blk.at_ rfl).alloc _))
  have HB2 := Lib.hid (show Blk w1 (w.heap.size + 1) 27 #[.int .i64 0, .int .i64 0, .int .i64 0, .int .i64 0, .slice none 0 0, .slice none 0 0] from hW0 ▸ (Blk.at_ (by simp)))
  clear hW0
  have hgb : w.heap.size < w1.heap.size := by omega
  have HSZ := Lib.hid hsz; clear hsz
  refine wp_region_tame (CD b w1 w.heap.size) (RD b w1.heap.size w.heap.size) (by kernel_rfl) 12 rfl (by decide +kernel) ?_ ?_
  · exact ⟨⟨rfl, rfl, rfl, Nat.le_refl _, fun _ _ _ => rfl⟩, _, _, HB1.out, GoodS.old HD.out (Nat.le_refl _) HE.out.drew, GoodS.old HW.out (Nat.le_refl _) HE.out.drew⟩
  repeat (apply tame_q rfl; (intro ρ W hC hr hD; (obtain ⟨hrc, hrg, hrf, hrs⟩ := hr); (simp [go_sem] at hD); go_simp; first | exact ⟨⟨hC, RD.refl _⟩, rfl⟩ | exact rfl); simp only [List.nil_append, List.cons_append])
  apply tame_v rfl (GoodS encD w.heap.size b.draws) (fun v W W' _ hR h => hR.1 v h)
  · intro ρ W hC hr hD
    obtain ⟨hrc, hrg, hrf, hrs⟩ := hr
    simp [go_sem] at hD
    obtain ⟨hg, dx, wx, hB, g1, g2⟩ := id hC
    have c4 := hB.cell 4
    simp at c4
    go_simp
    exact ⟨hC, RD.refl _⟩
  simp only [List.nil_append, List.cons_append]
  apply tame_v rfl (fun v W => Own encD 37 4 W w1.heap.size v b.draws) (fun v W W' _ hR h => hR.2.2.1 v h)
  · intro ρ W hC hr hD
    obtain ⟨hrc, hrg, hrf, hrs⟩ := hr
    simp [go_sem] at hD
    go_simp
    refine (cloneD_any _ b.draws W hD.1 hld).mono ?_
    rintro e w' ⟨v', rfl, ho, hE⟩
    exact ⟨_, rfl, ⟨hC.ext hE, RD.ext hE⟩, ho.mono hC.1.size⟩
  simp only [List.nil_append, List.cons_append]
  repeat (apply tame_q rfl; (intro ρ W hC hr hD; (obtain ⟨hrc, hrg, hrf, hrs⟩ := hr); (simp [go_sem] at hD); go_simp; first | exact ⟨⟨hC, RD.refl _⟩, rfl⟩ | exact rfl); simp only [List.nil_append, List.cons_append])
  apply tame_v rfl (GoodS encW w.heap.size b.weighs) (fun v W W' _ hR h => hR.2.1 v h)
  · intro ρ W hC hr hD
    obtain ⟨hrc, hrg, hrf, hrs⟩ := hr
    simp [go_sem] at hD
    obtain ⟨hg, dx, wx, hB, g1, g2⟩ := id hC
    have c5 := hB.cell 5
    simp at c5
    go_simp
    exact ⟨hC, RD.refl _⟩
  simp only [List.nil_append, List.cons_append]
  apply tame_v rfl (fun v W => Own encW 41 4 W w1.heap.size v b.weighs) (fun v W W' _ hR h => hR.2.2.2.1 v h)
  · intro ρ W hC hr hD
    obtain ⟨hrc, hrg, hrf, hrs⟩ := hr
    simp [go_sem] at hD
    go_simp
    refine (cloneW_any _ b.weighs W hD.1.1 hlw).mono ?_
    rintro e w' ⟨v', rfl, ho, hE⟩
    exact ⟨_, rfl, ⟨hC.ext hE, RD.ext hE⟩, ho.mono hC.1.size⟩
  simp only [List.nil_append, List.cons_append]
  repeat (apply tame_q rfl; (intro ρ W hC hr hD; (obtain ⟨hrc, hrg, hrf, hrs⟩ := hr); (simp [go_sem] at hD); go_simp; first | exact ⟨⟨hC, RD.refl _⟩, rfl⟩ | exact rfl); simp only [List.nil_append, List.cons_append])
  apply tame_n (fun _ W => FrC encD 37 w1.heap.size w.heap.size 4 b.draws W) (fun _ W W' _ hR h => hR.2.2.2.2.1 h)
  · intro ρ W hC hr hD
    obtain ⟨hrc, hrg, hrf, hrs⟩ := hr
    simp [go_sem] at hD
    obtain ⟨h9, h5, -⟩ := hD
    obtain ⟨hg, dx, wx, hB, g1, g2⟩ := hC
    have c4 := hB.cell 4
    have cf := hB.frozen
    simp at c4
    obtain ⟨Ad, nd, cd, ed, -, -, -⟩ := (show SlD W (ρ (.tmp 5)) b.draws from h5.sl (fun _ => rfl)).form
    rw [ed] at h5
    have H5 := Lib.hid h5; have HB := Lib.hid hB; have HG := Lib.hid hg; have G2 := Lib.hid g2
    clear h5 hB hg g1 g2
    go_simp
    obtain ⟨r1, r2⟩ := RD.set4 (b := b) (base := w1.heap.size) (W := W) hgb H5.out
    exact ⟨⟨⟨grown_set HG.out (p := ⟨w.heap.size, 4, none⟩) (.inl rfl) _, _, _, by simpa using HB.out.set_ 4 (.slice Ad nd cd), GoodS.own (fun _ => rfl) (H5.out.far (a := ⟨w.heap.size, 4, none⟩) hgb _) hgb, G2.out.set _⟩, r1⟩, r2 ⟨_, c4⟩⟩
  simp only [List.nil_append, List.cons_append]
  repeat (apply tame_q rfl; (intro ρ W hC hr hD; (obtain ⟨hrc, hrg, hrf, hrs⟩ := hr); (simp [go_sem] at hD); go_simp; first | exact ⟨⟨hC, RD.refl _⟩, rfl⟩ | exact rfl); simp only [List.nil_append, List.cons_append])
  apply tame_n (fun _ W => FrC encW 41 w1.heap.size w.heap.size 5 b.weighs W) (fun _ W W' _ hR h => hR.2.2.2.2.2 h)
  · intro ρ W hC hr hD
    obtain ⟨hrc, hrg, hrf, hrs⟩ := hr
    simp [go_sem] at hD
    obtain ⟨h10, h8, -⟩ := hD
    obtain ⟨hg, dx, wx, hB, g1, g2⟩ := hC
    have c5 := hB.cell 5
    have cf := hB.frozen
    simp at c5
    obtain ⟨Ad, nd, cd, ed, -, -, -⟩ := (show SlW W (ρ (.tmp 8)) b.weighs from h8.sl (fun _ => rfl)).form
    rw [ed] at h8
    have H8 := Lib.hid h8; have HB := Lib.hid hB; have HG := Lib.hid hg; have G1 := Lib.hid g1
    clear h8 hB hg g1 g2
    go_simp
    obtain ⟨r1, r2⟩ := RD.set5 (b := b) (base := w1.heap.size) (W := W) hgb H8.out
    exact ⟨⟨⟨grown_set HG.out (p := ⟨w.heap.size, 5, none⟩) (.inl rfl) _, _, _, by simpa using HB.out.set_ 5 (.slice Ad nd cd), G1.out.set _, GoodS.own (fun _ => rfl) (H8.out.far (a := ⟨w.heap.size, 5, none⟩) hgb _) hgb⟩, r1⟩, r2 ⟨_, c5⟩⟩
  simp only [List.nil_append, List.cons_append]
  refine tame_end 12 rfl rfl (fun ρ W hC hr hF => ?_)
  obtain ⟨hrc, hrg, hrf, hrs⟩ := hr
  simp [go_sem] at hF
  obtain ⟨f3, f4, f5, f6, f7, f8, f9, fD, f10, fW⟩ := hF
  obtain ⟨hg, dx, wx, hB, -, -⟩ := hC
  obtain ⟨dx', e4, o1⟩ := fD
  obtain ⟨wx', e5, o2⟩ := fW
  obtain rfl : dx' = dx := by have := hB.cell 4; rw [e4] at this; simpa using this
  obtain rfl : wx' = wx := by have := hB.cell 5; rw [e5] at this; simpa using this
  obtain ⟨Ad, nd, cd, rfl, -, -, -⟩ := (show SlD W dx' b.draws from o1.sl (fun _ => rfl)).form
  obtain ⟨Aw, nw, cw, rfl, -, -, -⟩ := (show SlW W wx' b.weighs from o2.sl (fun _ => rfl)).form
  have O1 := Lib.hid o1; have O2 := Lib.hid o2; have HG := Lib.hid hg; have HBW := Lib.hid hB
  have HB3 := Lib.hid (HB2.out.grown hg (by intro e; injection e with e; omega))
  generalize ρ (Operand.tmp 4) = v4 at *
  generalize ρ (Operand.tmp 5) = v5 at *
  generalize ρ (Operand.tmp 7) = v7 at *
  generalize ρ (Operand.tmp 8) = v8 at *
  apply frame_to
  · go_simp
    exact rfl
  clear f3 f4 f5 f6 f7 f8 f9 f10 e4 e5 o1 o2 hg hB hrc hrg hrf hrs
  have x0 := HBW.out.cell 0
  have x1 := HBW.out.cell 1
  have x2 := HBW.out.cell 2
  have x3 := HBW.out.cell 3
  have x4 := HBW.out.cell 4
  have x5 := HBW.out.cell 5
  have xl := HBW.out.lt
  have tf := HB3.out.frozen
  have tl := HB3.out.lt
  have t0 := HB3.out.cell 0
  have t1 := HB3.out.cell 1
  have t2 := HB3.out.cell 2
  have t3 := HB3.out.cell 3
  have t4 := HB3.out.cell 4
  have t5 := HB3.out.cell 5
  simp at x0 x1 x2 x3 x4 x5 t0 t1 t2 t3 t4 t5
  go_wp2
  refine ret_set6 HB3.out fun W' ⟨b0, b1, b2, b3, b4, b5⟩ hW => ?_
  have hsz := HSZ.out
  refine bodyPost_ret (v := valB b (.slice Ad nd cd) (.slice Aw nw cw)) (by simp [results, Tryz.results34, go_sem, b0, b1, b2, b3, b4, b5]) rfl ?_
  exact ⟨⟨_, rfl, ⟨_, _, rfl, own_mono (own_kept O1.out hW (by omega)) (by omega), own_mono (own_kept O2.out hW (by omega)) (by omega)⟩⟩, ext_grown (ext_grown HE.out HG.out (Nat.le_refl _)) hW (by omega)⟩
end Go.Proofs.YtfhmfbhpehldpaaGreatDoor
