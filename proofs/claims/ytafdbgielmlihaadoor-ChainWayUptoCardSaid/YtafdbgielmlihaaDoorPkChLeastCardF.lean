/- copy of elements of several cells into a row; append of zeros; clone; of whatever type. -/
import Derived.Test.YtafdbgielmlihaaDoorPkChLeastCardC
import Derived.Lib.Overlaps
import Derived.Lib.AppendZeros
import Derived.Lib.AppendZerosOnto
import Derived.Lib.SliceRun
import Derived.Laws.IdiomCopy
import Derived.Laws.CopyRow
import Derived.Laws.Externs
import Derived.Test.YtafdbgielmlihaaDoorPkChLeastCardE
import Derived.Outline
import Derived.Test.YtafdbgielmlihaaDoorPkChLeastCardD
import Derived.Laws.Rows
namespace Go.Proofs.YtafdbgielmlihaaDoor
open Go.RowKit Go.Shelf Go.Lib
set_option maxRecDepth 100000
set_option linter.unusedSimpArgs false

theorem run_copy_rowN {P : Program} (w : World) (dT sT ty elem : TypeId) (sz g o dLen dCap : Nat) (a : Addr) (sLen sCap : Nat) (cur : Array Value) (t : TypeId) (cs : List Value)
    (hu : P.underlying dT = some (.slice elem)) (hs : (P.info? elem).map (·.size) = some sz)
    (hg : w.heap[g]? = some (.cells cur t (0, 0))) (hn : cs.length = Nat.min sLen dLen * sz)
    (hsrc : ∀ j v, cs[j]? = some v → w.cell? (a.add j) = some v) (hfit : o + cs.length ≤ cur.size) (h1 : ∀ v ∈ cs, v.oneCell' = true) :
    (Builtin.copy_ #[dT, sT] ty #[.slice (some ⟨g, o, none⟩) dLen dCap, .slice (some a) sLen sCap]).run P w =
      .ok (goInt (Nat.min sLen dLen)) (w.setRow g (cur.toList.take o ++ cs ++ cur.toList.drop (o + cs.length)).toArray) := by
  have hl := run_loadCells_list (P := P) w a cs hsrc
  have hst := run_storeCells_at (P := P) g o t cs 0 cur w hg (by simpa using hfit) h1
  rw [Nat.add_zero] at hst
  cases hq : P.info? elem with
  | none => simp [hq] at hs
  | some i =>
    have hi : i.size = sz := by simpa [hq] using hs
    simp [Builtin.copy_, run_underlying hu, Builtin.lenOf, Builtin.firstCells, sizeOf, typeInfo, hq, hi, ← hn, hl, hst]
/-- append of a whole slice onto an empty one, as a step. -/
theorem wpList_copyE {α : Type} {enc : α → List Value} {t e : TypeId} {sz : Nat} {z : Value} {bytes : Nat} (ht : Tryd.prog.underlying t = some (.slice e))
    (hinfo : (Tryd.prog.info? e).map (fun i => (i.zero, i.size, i.bytes)) = some (some z, sz, bytes)) (hzs : z.cells.size = sz) (hsz : 0 < sz) (hbytes : bytes ≤ 1000) (henc : ∀ x, (enc x).length = sz)
    {ops : Array Oper} {rest : List Oper} {o : Oper} {a : Act} {Q : Exit → Act → World → Prop} {W : World} (hgd : o.guard = none) (s x : Operand)
    (ho : o.op = .call { callee := .builtin .append, args := #[s, x], argTypes := #[t, t] }) {base g : Nat} (hs : a.eval s = .slice (some ⟨g, 0, none⟩) 0 0) {v : Value} (hx : a.eval x = v)
    (hB : Blk W g e #[]) (hg : base ≤ g) (hW : base ≤ W.heap.size) {l : List α} (hl : Sl enc sz W v l) (hlen : l.length ≤ 1000)
    (h : ∀ v' W', Own enc e sz W' base v' l → Ext W W' → wpList Tryd.prog ops Q rest (a.put o.dst v') W') : wpList Tryd.prog ops Q (o :: rest) a W := by
  obtain ⟨v', W', hr, h1, h2⟩ := run_copy (t := t) (ty := o.type) (enc := enc) (sz := sz) ht hinfo hzs hsz hbytes henc hB hg hW hl hlen
  refine wpList_plain hgd fun K hK => ?_
  unfold Oper.wp execOp
  simp only [ho, resolve, invoke, builtin, Sem.run_bind, Sem.run_pure, Result.andThen_ok, List.map_toArray, List.map_cons, List.map_nil, hs, hx, hr]
  exact hK _ _ (h v' W' h1 h2)
theorem sl_nil_of {α : Type} {enc : α → List Value} {sz : Nat} {W : World} {A : Option Addr} {n c : Nat} {l : List α} (h : Sl enc sz W (.slice A n c) l) (hA : A.isNone = true) : l = [] ∧ n = 0 := by
  obtain ⟨A', c', hv, _, _, hx⟩ := h
  injection hv with e1 e2 e3
  subst e1 e3
  have hl0 : l = [] := by
    by_cases h0 : 0 < l.length
    · obtain ⟨_, _, h1, _⟩ := hx h0; rw [h1] at hA; cases hA
    · exact List.eq_nil_of_length_eq_zero (by omega)
  exact ⟨hl0, by rw [e2, hl0]; rfl⟩

theorem grown_row {w : World} {g : Nat} (cs : Array Value) : w.grownBy (w.setRow g cs) (some g) := ⟨rfl, rfl, rfl, by simp [World.setRow], fun i _ hi => setRow_other w g i _ (fun e => hi (by rw [e]))⟩
theorem flat_take {α : Type} {enc : α → List Value} {sz : Nat} (henc : ∀ x, (enc x).length = sz) (l : List α) (k : Nat) (hk : k ≤ l.length) : (l.flatMap enc).take (k * sz) = (l.take k).flatMap enc := by
  have hm : l.flatMap enc = (l.take k).flatMap enc ++ (l.drop k).flatMap enc := by rw [← List.flatMap_append, List.take_append_drop]
  have hl : ((l.take k).flatMap enc).length = k * sz := by rw [enc_len henc, List.length_take, Nat.min_eq_left hk]
  rw [hm, ← hl]
  exact List.take_left
theorem flat_drop {α : Type} {enc : α → List Value} {sz : Nat} (henc : ∀ x, (enc x).length = sz) (l : List α) (k : Nat) (hk : k ≤ l.length) : (l.flatMap enc).drop (k * sz) = (l.drop k).flatMap enc := by
  have hm : l.flatMap enc = (l.take k).flatMap enc ++ (l.drop k).flatMap enc := by rw [← List.flatMap_append, List.take_append_drop]
  have hl : ((l.take k).flatMap enc).length = k * sz := by rw [enc_len henc, List.length_take, Nat.min_eq_left hk]
  rw [hm, ← hl]
  exact List.drop_left
end Go.Proofs.YtafdbgielmlihaaDoor
/- slices.Clone at numbers and sales, slices.DeleteFunc at sales, cmp.Compare, slices.BinarySearchFunc at sales. -/
namespace Go.Proofs.YtafdbgielmlihaaDoor
open Go.RowKit Go.Shelf Go.Lib
set_option maxRecDepth 100000
set_option linter.unusedSimpArgs false

@[go_sem] theorem eql22nil (w : World) (a : Option Addr) (n c : Nat) : (binOp .eql 22 (.slice a n c) (.slice none 0 0)).run Tryd.prog w = .ok (.bool a.isNone) w := Lib.run_eql_slice_nil w 22 3 a n c 0 0 Tryd.underlying22
@[go_sem] theorem eql23nil (w : World) (a : Option Addr) (n c : Nat) : (binOp .eql 23 (.slice a n c) (.slice none 0 0)).run Tryd.prog w = .ok (.bool a.isNone) w := Lib.run_eql_slice_nil w 23 68 a n c 0 0 Tryd.underlying23
theorem cloneI_any (v : Value) (l : List Int) (w : World) (hs : SlI w v l) (hlen : l.length ≤ 1000) :
    Calls Tryd.prog 83 #[v] w fun e w' => (∃ v', e = .returned v' ∧ Own encI 3 1 w' w.heap.size v' l) ∧ Ext w w' := by
  have HS := Lib.hid hs
  have HL := Lib.hid hlen
  obtain ⟨A, n, c, rfl, hn, hlc, hcm⟩ := hs.form
  have HN := Lib.hid (show A.isNone = true → l = [] ∧ n = 0 from sl_nil_of hs)
  clear hs hlen hn hlc hcm
  cases hN : A.isNone with
  | true =>
    obtain ⟨rfl, rfl⟩ := HN.out hN
    clear HS HL HN
    go_enter Tryd.func83, Tryd.ntmps83
    go_wp2
    go_ret
    exact ⟨⟨_, rfl, Own.nil _ _⟩, Ext.refl _⟩
  | false =>
    clear HN
    go_enter Tryd.func83, Tryd.ntmps83
    go_wp2_with (at_builtin; refine wpList_copyE (enc := encI) (e := 3) (sz := 1) Tryd.underlying22 info3x rfl (by decide) (by decide) (fun _ => rfl) rfl (.tmp 5) (.tmp 6) rfl (base := w.heap.size) (g := w.heap.size) rfl rfl (Blk.new _ _ _) (Nat.le_refl _) (by simp) (HS.out.ext (Ext.al _ _)) HL.out ?_)
    intro v1 w1 hown hext
    have HE := Lib.hid (show Ext w w1 from (Ext.al _ _).trans hext)
    go_wp2
    go_ret
    exact ⟨⟨_, rfl, hown⟩, HE.out⟩
theorem cloneL_any (v : Value) (l : List Sale) (w : World) (hs : SlL w v l) (hlen : l.length ≤ 1000) :
    Calls Tryd.prog 120 #[v] w fun e w' => (∃ v', e = .returned v' ∧ Own encL 68 5 w' w.heap.size v' l) ∧ Ext w w' := by
  have HS := Lib.hid hs
  have HL := Lib.hid hlen
  obtain ⟨A, n, c, rfl, hn, hlc, hcm⟩ := hs.form
  have HN := Lib.hid (show A.isNone = true → l = [] ∧ n = 0 from sl_nil_of hs)
  clear hs hlen hn hlc hcm
  cases hN : A.isNone with
  | true =>
    obtain ⟨rfl, rfl⟩ := HN.out hN
    clear HS HL HN
    go_enter Tryd.func120, Tryd.ntmps120
    go_wp2
    go_ret
    exact ⟨⟨_, rfl, Own.nil _ _⟩, Ext.refl _⟩
  | false =>
    clear HN
    go_enter Tryd.func120, Tryd.ntmps120
    go_wp2_with (at_builtin; refine wpList_copyE (enc := encL) (e := 68) (sz := 5) Tryd.underlying23 info68x rfl (by decide) (by decide) (fun _ => rfl) rfl (.tmp 5) (.tmp 6) rfl (base := w.heap.size) (g := w.heap.size) rfl rfl (Blk.new _ _ _) (Nat.le_refl _) (by simp) (HS.out.ext (Ext.al _ _)) HL.out ?_)
    intro v1 w1 hown hext
    have HE := Lib.hid (show Ext w w1 from (Ext.al _ _).trans hext)
    go_wp2
    go_ret
    exact ⟨⟨_, rfl, hown⟩, HE.out⟩

theorem del_any (tf : FuncId) (tlb : Array Value) (et : ∀ args w, (callFunc tf args).run Tryd.prog w = .ok (.enter tf args) w) (p : Sale → Bool) (l : List Sale) (v : Value) (base : Nat) (w : World) (hb : base ≤ w.heap.size) (ho : Own encL 68 5 w base v l)
    (hp : ∀ W x, Below base w W → Calls Tryd.prog tf (#[valL x] ++ tlb) W fun e W' => e = .returned (.bool (p x)) ∧ Ext W W') :
    Calls Tryd.prog 121 #[v, .func (.func tf) #[] tlb] w fun e w' => ∃ v', e = .returned v' ∧ Own encL 68 5 w' base v' (l.filter fun x => !p x) ∧ w.grownBy w' v.ownBlock := by
  have HP := Lib.hid hp
  have HO := Lib.hid ho
  have hsl : SlL w v l := Own.sl (enc := encL) (fun _ => rfl) ho
  obtain ⟨A, n, c, rfl, hn, hlc, hcm⟩ := hsl.form
  have HSL := Lib.hid hsl
  have HPR := Lib.hid (show Pred valL tf tlb p l w from fun W x _ hE => hp W x (Below.mono hE hb))
  clear hp ho hsl
  go_enter Tryd.func121, Tryd.ntmps121
  go_wp2_with fail
  refine (f127_any tf tlb et p l _ w HSL.out HPR.out).mono ?_
  rintro e w1 ⟨rfl, hE⟩
  have HB1 := Lib.hid hE
  have HO1 := Lib.hid (HO.out.ext hE)
  have hz1 := hE.size
  rcases idxF_cases p l with ⟨hi, hall⟩ | ⟨k, x, hi, hx, hpx, hlt⟩
  · rw [hi]
    have HF := Lib.hid (show (l.filter fun x => !p x) = l from List.filter_eq_self.2 fun x hx => by rw [hall x hx]; rfl)
    clear hE hall
    go_wp2
    go_ret
    exact ⟨_, rfl, by rw [HF.out]; exact HO1.out, ext_row HB1.out _⟩
  · rw [hi]
    have hkn : k < n := by rw [hn.out]; exact (List.getElem?_eq_some_iff.1 hx).1
    have hnz : (n : Int) ≤ 9223372036854775807 := by omega
    have hk1 : ¬ ((k : Int) = -1) := by omega
    have HF0 := Lib.hid (show l.take k = (l.take (k + 1)).filter fun x => !p x by
      rw [List.take_add_one, hx, List.filter_append]
      have h1 : (l.take k).filter (fun x => !p x) = l.take k := List.filter_eq_self.2 fun y hy => by
        obtain ⟨j, hj⟩ := List.mem_iff_getElem?.1 hy
        rw [List.getElem?_take] at hj
        split at hj
        · rename_i hjk
          rw [hlt j y hjk hj]; rfl
        · cases hj
      rw [h1]
      simp [hpx])
    obtain ⟨g, cap, hv, hbg⟩ : ∃ g cap, (Value.slice A n c) = .slice (some ⟨g, 0, none⟩) n cap ∧ base ≤ g := by
      obtain ⟨m, rfl⟩ : ∃ m, n = m + 1 := ⟨n - 1, by omega⟩
      have h9 := HO.out
      unfold Own at h9
      rw [← hn.out] at h9
      obtain ⟨g, cap, e1, e2⟩ := own_succ h9
      exact ⟨g, cap, e1, e2⟩
    injection hv with hv1 _ hv3
    subst hv1 hv3
    clear hE hi hx hpx hlt
    go_wp2
    go_loopg [5, 6, 7] n (fun gg s5 s6 _ wr => ∃ (i j : Nat) (m : List Sale), i < j ∧ j ≤ n ∧ n - j ≤ gg ∧ s5 = .int .i64 (i : Int) ∧ s6 = .int .i64 (j : Int) ∧ m.length = n ∧ Aside (Own encL 68 5 wr base (.slice (some ⟨g, 0, none⟩) n c) m) ∧ Aside (m.take i = (l.take j).filter fun x => !p x) ∧ Aside (∀ t, j ≤ t → m[t]? = l[t]?) ∧ Aside (w.grownBy wr (some g)))
    case atStart => exact ⟨k, k + 1, l, by omega, by omega, by omega, rfl, by simp, hn.out.symm, HO1.out, HF0.out, fun t _ => rfl, ext_row HB1.out _⟩
    case round =>
      obtain ⟨i, j, m, hij, hj, hgg, rfl, rfl, hml, OM, MT, MD, BW⟩ := hrel
      have hbs := BW.out.size
      by_cases hjn : j < n
      · have hjz : (j : Int) < (n : Int) := by omega
        have hslm : SlL wr (.slice (some ⟨g, 0, none⟩) n c) m := Own.sl (enc := encL) (fun _ => rfl) OM.out
        obtain ⟨bb, off, x, e1, hx, hbb, hxc⟩ := hslm.at_ hjn
        injection e1 with e1
        injection e1 with e1 e2 _
        subst e1 e2
        obtain ⟨c0, c1, c2, c3, c4⟩ := SlL.cells hxc (Ext.refl _)
        simp only [Nat.zero_add] at c0 c1 c2 c3 c4
        have HC := Lib.hid (HP.out (wr.alloc (.cells #[.int .i64 x.number, .int .i64 x.seller, .int .i64 x.buyer, .int .i64 x.bales, .int .i64 x.price] 68)) x ((row_below BW.out hb hbg).alloc (by omega) _))
        have hlx : l[j]? = some x := by rw [← MD.out j (Nat.le_refl _)]; exact hx
        have hxx : m[j]? = some x := hx
        cases hpx : p x with
        | true =>
          rw [hpx] at HC
          have HMT := Lib.hid (show m.take i = (l.take (j + 1)).filter fun x => !p x by rw [MT.out, List.take_add_one, hlx, List.filter_append]; simp [hpx])
          clear hxc hslm hx
          go_wp2_with (go_at_fn tf; refine HC.out.mono ?_; rintro e w' ⟨rfl, hE'⟩)
          have EX := Lib.hid (show Ext wr w' from (Ext.al _ _).trans hE')
          go_wp2
          go_roundg (n - (j + 1))
          case measure => omega
          case rel => exact ⟨i, j + 1, m, by omega, by omega, by omega, rfl, by simp, hml, OM.out.ext EX.out, HMT.out, fun t ht => MD.out t (by omega), grown_ext BW.out EX.out⟩
        | false =>
          rw [hpx] at HC
          have HMT := Lib.hid (show (m.set i x).take (i + 1) = (l.take (j + 1)).filter fun x => !p x by
            rw [List.take_add_one, List.getElem?_set, if_pos rfl, if_pos (by omega), List.take_set_of_le (Nat.le_refl _), MT.out, List.take_add_one, hlx, List.filter_append]
            simp [hpx])
          have hin : i < n := by omega
          have hiz : (i : Int) < (n : Int) := by omega
          clear hxc hslm hx
          go_wp2_with fail
          refine HC.out.mono ?_
          rintro e w' ⟨rfl, hE'⟩
          have EX := Lib.hid (show Ext wr w' from (Ext.al _ _).trans hE')
          have HBX := Lib.hid ((Blk.new wr 68 #[.int .i64 x.number, .int .i64 x.seller, .int .i64 x.buyer, .int .i64 x.bales, .int .i64 x.price]).ext hE')
          have OM2 := OM.out.ext EX.out
          have hslm : SlL w' (.slice (some ⟨g, 0, none⟩) n c) m := Own.sl (enc := encL) (fun _ => rfl) OM2
          obtain ⟨bb, off, y, e1, hy, hbb2, hyc⟩ := hslm.at_ hin
          injection e1 with e1
          injection e1 with e1 e2 _
          subst e1 e2
          obtain ⟨d0, d1, d2, d3, d4⟩ := SlL.cells hyc (Ext.refl _)
          simp only [Nat.zero_add] at d0 d1 d2 d3 d4
          have df : ∀ k, w'.frozen? ⟨g, k, none⟩ = false := fun k => own_frozen OM2 k
          have bx := HBX.out.c5
          have HOM2 := Lib.hid OM2
          clear hslm hyc hy OM2 c0 c1 c2 c3 c4 hE'
          go_wp2
          go_roundg (n - (j + 1))
          case measure => omega
          case rel => exact ⟨i + 1, j + 1, m.set i x, by omega, by omega, by omega, by simp, by simp, by rw [List.length_set]; exact hml, own_put5 (enc := encL) (fun _ => rfl) (x := x) rfl HOM2.out hml.symm hin, HMT.out, fun t ht => by rw [List.getElem?_set, if_neg (by omega)]; exact MD.out t (by omega), grown_set (grown_set (grown_set (grown_set (grown_set (grown_ext BW.out EX.out) (p := ⟨g, _, none⟩) (.inl rfl) _) (p := ⟨g, _, none⟩) (.inl rfl) _) (p := ⟨g, _, none⟩) (.inl rfl) _) (p := ⟨g, _, none⟩) (.inl rfl) _) (p := ⟨g, _, none⟩) (.inl rfl) _⟩
      · have hje : j = n := by omega
        subst hje
        obtain ⟨w', hr, HOC, hgr⟩ := run_clear_own (enc := encL) (sz := 5) (fun _ => rfl) (t := 23) (e := 68) (ty := 0) (z := .agg #[.int .i64 0, .int .i64 0, .int .i64 0, .int .i64 0, .int .i64 0]) Tryd.underlying23 Tryd.zeroValue68 rfl (by decide) (by decide) (k := i) (c := c - i) OM.out hml.symm (by omega)
        have HOC := Lib.hid HOC
        have HF := Lib.hid (show m.take i = l.filter fun x => !p x by rw [MT.out, List.take_of_length_le (by have := hn.out; omega)])
        have HBE := Lib.hid (show w.grownBy w' (some g) from grown_tr BW.out hgr)
        have hin : i ≤ j := by omega
        have hiz : (i : Int) ≤ (j : Int) := by omega
        clear hgr
        go_wp2
        go_ret
        exact ⟨_, rfl, by rw [← HF.out]; exact HOC.out, HBE.out⟩

def cmpI (a b : Int) : Int := if a < b then -1 else if b < a then 1 else 0
theorem nan_any (x : Int) (w : World) : Calls Tryd.prog 116 #[.int .i64 x] w fun e w' => e = .returned (.bool false) ∧ Ext w w' := by
  go_enter Tryd.func116, Tryd.ntmps116
  go_wp2
  go_ret
  exact ⟨by simp, Ext.refl _⟩
theorem compare_any (a b : Int) (w : World) : Calls Tryd.prog 99 #[.int .i64 a, .int .i64 b] w fun e w' => e = .returned (.int .i64 (cmpI a b)) ∧ Ext w w' := by
  go_enter Tryd.func99, Tryd.ntmps99
  go_wp2_with fail
  refine (nan_any a w).mono ?_
  rintro e w1 ⟨rfl, hE1⟩
  have HE1 := Lib.hid hE1; clear hE1
  go_wp2_with fail
  refine (nan_any b w1).mono ?_
  rintro e w2 ⟨rfl, hE2⟩
  have HE2 := Lib.hid (HE1.out.trans hE2); clear hE2
  by_cases h1 : a < b
  · have HC := Lib.hid (show cmpI a b = -1 by unfold cmpI; rw [if_pos h1])
    go_wp2
    go_ret
    exact ⟨by rw [HC.out]; rfl, HE2.out⟩
  · by_cases h2 : b < a
    · have HC := Lib.hid (show cmpI a b = 1 by unfold cmpI; rw [if_neg h1, if_pos h2])
      go_wp2
      go_ret
      exact ⟨by rw [HC.out]; rfl, HE2.out⟩
    · have HC := Lib.hid (show cmpI a b = 0 by unfold cmpI; rw [if_neg h1, if_neg h2])
      go_wp2
      go_ret
      exact ⟨by rw [HC.out]; rfl, HE2.out⟩

theorem f118_any (x : Sale) (n : Int) (w : World) : Calls Tryd.prog 118 #[valL x, .int .i64 n] w fun e w' => e = .returned (.int .i64 (cmpI x.number n)) ∧ Ext w w' := by
  dsimp only [valL]
  go_enter Tryd.func118, Tryd.ntmps118
  go_wp2_with fail
  refine (compare_any x.number n _).mono ?_
  rintro e w1 ⟨rfl, hE⟩
  have HE := Lib.hid ((Ext.al _ _).trans hE); clear hE
  go_wp2
  go_ret
  exact ⟨rfl, HE.out⟩

def Bin (p : Nat) (w : World) (e : Ending) (w' : World) : Prop := (∃ b : Bool, e = .returned (.tuple #[.int .i64 (p : Int), .bool b])) ∧ Ext w w'
set_option maxHeartbeats 1000000 in
theorem bin_any (tf : FuncId) (et : ∀ args w, (callFunc tf args).run Tryd.prog w = .ok (.enter tf args) w) (f : Sale → Int) (t : Int) (l : List Sale) (v : Value) (p : Nat) (w : World) (hs : SlL w v l) (hl : l.length ≤ 1000) (hp : p ≤ l.length)
    (hlo : ∀ k x, k < p → l[k]? = some x → f x < 0) (hhi : ∀ k x, p ≤ k → l[k]? = some x → 0 ≤ f x)
    (hf : ∀ W x, Ext w W → Calls Tryd.prog tf #[valL x, .int .i64 t] W fun e W' => e = .returned (.int .i64 (f x)) ∧ Ext W W') :
    Calls Tryd.prog 117 #[v, .int .i64 t, .func (.func tf) #[] #[]] w (Bin p w) := by
  have HF := Lib.hid hf
  have HLO := Lib.hid hlo
  have HHI := Lib.hid hhi
  have HS := Lib.hid hs
  obtain ⟨A, n, c, rfl, hn, hlc, hcm⟩ := hs.form
  have hn1 : n ≤ 1000 := by have := hn.out; omega
  have hpn : p ≤ n := by have := hn.out; omega
  clear hs hf hlo hhi hl hp
  go_enter Tryd.func117, Tryd.ntmps117
  go_wp2
  go_loopg [9, 10, 11] n (fun gg s9 s10 s11 wr => ∃ (i j : Nat), i ≤ p ∧ p ≤ j ∧ j ≤ n ∧ j - i ≤ gg ∧ s9 = .int .i64 (i : Int) ∧ s10 = .int .i64 (j : Int) ∧ Aside (Ext w wr))
  case atStart => exact ⟨0, n, by omega, by omega, by omega, by omega, rfl, rfl, Ext.refl _⟩
  case round =>
    obtain ⟨i, j, hip, hpj, hjn, hg, rfl, rfl, BW⟩ := hrel
    by_cases hij : i < j
    · have hijz : (i : Int) < (j : Int) := by omega
      obtain ⟨h, hh⟩ : ∃ h, h = (i + j) / 2 := ⟨_, rfl⟩
      have hhz : ((i : Int) + (j : Int)) / 2 = (h : Int) := by omega
      have hhn : h < n := by omega
      have hhnz : (h : Int) < (n : Int) := by omega
      have HIH := Lib.hid (show i ≤ h ∧ h < j by omega)
      obtain ⟨b, off, x, rfl, hx, hb, hcell⟩ := HS.out.at_ hhn
      obtain ⟨c0, c1, c2, c3, c4⟩ := SlL.cells hcell BW.out
      have HX := Lib.hid hx
      have HC := Lib.hid (HF.out wr x BW.out)
      clear hh hx hcell hb
      go_wp2_with fail
      refine HC.out.mono ?_
      rintro e w1 ⟨rfl, hE⟩
      have HE := Lib.hid (BW.out.trans hE); clear hE
      by_cases hlt : f x < 0
      · have hph : h < p := by
          refine Nat.lt_of_not_le fun hle => ?_
          have := HHI.out h x hle HX.out
          omega
        go_wp2
        go_roundg (j - (h + 1))
        case measure => have := HIH.out; omega
        case rel => exact ⟨h + 1, j, by omega, by omega, by omega, by omega, by simp, rfl, HE.out⟩
      · have hph : p ≤ h := by
          refine Nat.le_of_not_lt fun hle => ?_
          have := HLO.out h x hle HX.out
          omega
        go_wp2
        go_roundg (h - i)
        case measure => have := HIH.out; omega
        case rel => exact ⟨i, h, by omega, by omega, by omega, by omega, rfl, rfl, HE.out⟩
    · have he1 : i = p := by omega
      have he2 : j = p := by omega
      subst he1
      subst he2
      by_cases hpn' : j < n
      · have hpz : (j : Int) < (n : Int) := by omega
        obtain ⟨b, off, x, rfl, hx, hb, hcell⟩ := HS.out.at_ hpn'
        obtain ⟨c0, c1, c2, c3, c4⟩ := SlL.cells hcell BW.out
        have HC := Lib.hid (HF.out wr x BW.out)
        clear hx hcell hb
        go_wp2_with fail
        refine HC.out.mono ?_
        rintro e w1 ⟨rfl, hE⟩
        have HE := Lib.hid (BW.out.trans hE); clear hE
        go_wp2
        go_ret2
        exact ⟨⟨_, rfl⟩, HE.out⟩
      · have hpz : ¬ (j : Int) < (n : Int) := by omega
        go_wp2
        go_ret2
        exact ⟨⟨_, rfl⟩, BW.out⟩
end Go.Proofs.YtafdbgielmlihaaDoor
/- Rows of cells that are written cell by cell; a bale's cost: cost.plus, cost.less, slices.Compare at numbers. -/
namespace Go.Proofs.YtafdbgielmlihaaDoor
open Go.RowKit Go.Shelf Go.Lib
set_option maxRecDepth 100000
set_option linter.unusedSimpArgs false

/-! Cells that are written one after the other. -/
def setsW : World → Nat → Nat → List Value → World
  | W, _, _, [] => W
  | W, g, i, y :: ys => setsW (W.setCell ⟨g, i, none⟩ y) g (i + 1) ys
def setsA : Array Value → Nat → List Value → Array Value
  | cs, _, [] => cs
  | cs, i, y :: ys => setsA (cs.setIfInBounds i y) (i + 1) ys
theorem Blk.setsW {g : Nat} {t : TypeId} : ∀ (ys : List Value) {w : World} {cs : Array Value} (_ : Blk w g t cs) (i : Nat), Blk (setsW w g i ys) g t (setsA cs i ys)
  | [], _, _, h, _ => h
  | y :: ys, _, _, h, i => Blk.setsW ys (h.set_ i y) (i + 1)
theorem setsW_grown {g : Nat} {a : World} : ∀ (ys : List Value) {w : World} (_ : a.grownBy w (some g)) (i : Nat), a.grownBy (setsW w g i ys) (some g)
  | [], _, h, _ => h
  | y :: ys, _, h, i => setsW_grown ys (grown_set h (p := ⟨g, i, none⟩) (.inl rfl) y) (i + 1)
theorem setsW_ext {g : Nat} {a : World} (hg : a.heap.size ≤ g) : ∀ (ys : List Value) {w : World} (_ : Ext a w) (i : Nat), Ext a (setsW w g i ys)
  | [], _, h, _ => h
  | y :: ys, _, h, i => setsW_ext hg ys (h.setCell hg y) (i + 1)
theorem setsA_eq : ∀ (ys : List Value) (l : List Value) (i : Nat), i + ys.length ≤ l.length → setsA l.toArray i ys = (l.take i ++ ys ++ l.drop (i + ys.length)).toArray
  | [], l, i, _ => by simp [setsA]
  | y :: ys, l, i, h => by
    rw [setsA, List.setIfInBounds_toArray, setsA_eq ys _ _ (by simp at h ⊢; omega)]
    simp only [List.length_cons] at h
    congr 1
    rw [List.take_set, List.drop_set, List.length_cons, if_pos (by omega), show i + 1 + ys.length = i + (ys.length + 1) by omega]
    rw [List.take_add_one, List.getElem?_eq_getElem (by omega)]
    rw [List.set_append_right _ _ (by rw [List.length_take]; exact Nat.min_le_left _ _)]
    rw [List.length_take, show i - min i l.length = 0 by omega]
    simp
theorem ret_sets {P : Program} {fn : Func} {R : Ending → World → Prop} {ex : Exit} {a : Act} {w1 : World} {g : Nat} (ys : List Value)
    (h : ∀ W, W = setsW w1 g 0 ys → bodyPost P fn R ex a W) : bodyPost P fn R ex a (setsW w1 g 0 ys) := h _ rfl
/-- A row of elements that fills its block. -/
def RowE {α : Type} (enc : α → List Value) (t : TypeId) (w : World) (g : Nat) (m : List α) : Prop := Blk w g t (m.flatMap enc).toArray
section
variable {α : Type} {enc : α → List Value} {t : TypeId} {w w' : World} {g sz : Nat} {m : List α}
theorem RowE.lt (h : RowE enc t w g m) : g < w.heap.size := Blk.lt h
theorem RowE.frozen (h : RowE enc t w g m) (i : Nat) : w.frozen? ⟨g, i, none⟩ = false := Blk.frozen h i
theorem RowE.ext (h : RowE enc t w g m) (e : Ext w w') : RowE enc t w' g m := Blk.ext h e
theorem RowE.alloc (h : RowE enc t w g m) (o : Obj) : RowE enc t (w.alloc o) g m := Blk.alloc h o
theorem RowE.far (h : RowE enc t w g m) {p : Addr} (hp : g ≠ p.block) (u : Value) : RowE enc t (w.setCell p u) g m := Blk.far h hp u
theorem RowE.cell (henc : ∀ x, (enc x).length = sz) (h : RowE enc t w g m) {k : Nat} {x : α} (hx : m[k]? = some x) (j : Nat) (u : Value) (hu : (enc x)[j]? = some u) : w.cell? ⟨g, k * sz + j, none⟩ = some u := by
  rw [Blk.cell h]
  simpa using flatMap_at henc m k x hx j u hu
theorem RowE.own (henc : ∀ x, (enc x).length = sz) (h : RowE enc t w g m) {base : Nat} (hg : base ≤ g) (hl : m.length ≤ maxLen) : Own enc t sz w base (.slice (some ⟨g, 0, none⟩) m.length m.length) m := by
  have hf := enc_len henc m
  refine ⟨hf, .inr ⟨g, m.length, _, rfl, hg, h, Nat.le_refl _, hl, by simpa using hf, ?_⟩⟩
  rw [List.take_of_length_le (by simpa using Nat.le_of_eq hf)]
theorem flat_split (henc : ∀ x, (enc x).length = sz) : ∀ (m : List α) (k : Nat) (x : α), k < m.length → (m.flatMap enc).take (k * sz) ++ enc x ++ (m.flatMap enc).drop (k * sz + sz) = (m.set k x).flatMap enc
  | y :: m, 0, x, _ => by
    simp only [List.flatMap_cons, List.set_cons_zero, Nat.zero_mul, List.take_zero, List.nil_append, Nat.zero_add]
    rw [← henc y, List.drop_left]
  | y :: m, k + 1, x, h => by
    have ih := flat_split henc m k x (by simpa using h)
    simp only [List.flatMap_cons, List.set_cons_succ]
    rw [← ih]
    have e1 : (k + 1) * sz = (enc y).length + k * sz := by rw [henc, Nat.succ_mul]; omega
    rw [e1, List.take_length_add_append, show (enc y).length + k * sz + sz = (enc y).length + (k * sz + sz) by omega, List.drop_length_add_append]
    simp only [List.append_assoc]
  | [], _, _, h => by simp at h
theorem RowE.put (henc : ∀ x, (enc x).length = sz) (h : RowE enc t w g m) {k : Nat} (hk : k < m.length) (x : α) : RowE enc t (setsW w g (k * sz) (enc x)) g (m.set k x) := by
  have h1 := Blk.setsW (enc x) h (k * sz)
  have hf := enc_len henc m
  rw [setsA_eq _ _ _ (by rw [hf, henc]; have := Nat.mul_le_mul_right sz (show k + 1 ≤ m.length from hk); rw [Nat.succ_mul] at this; exact this), henc, flat_split henc m k x hk] at h1
  exact h1
end

/-! Costs: lists of twelve numbers. -/
theorem twelve {a : List Int} (h : a.length = 12) : ∃ a0 a1 a2 a3 a4 a5 a6 a7 a8 a9 a10 a11, a = [a0, a1, a2, a3, a4, a5, a6, a7, a8, a9, a10, a11] := by
  match a, h with
  | [a0, a1, a2, a3, a4, a5, a6, a7, a8, a9, a10, a11], _ => exact ⟨_, _, _, _, _, _, _, _, _, _, _, _, rfl⟩
/-- A cost in a box. -/
abbrev CostB (w : World) (g : Nat) (a : List Int) : Prop := Blk w g 125 (intsA a)
theorem CostB.cell {w : World} {g : Nat} {a : List Int} (h : CostB w g a) {i : Nat} {x : Int} (hx : a[i]? = some x) : w.cell? ⟨g, i, none⟩ = some (.int .i64 x) := by
  rw [Blk.cell h i]
  simp [intsA, hx]
theorem CostB.set {w : World} {g : Nat} {a : List Int} (h : CostB w g a) (i : Nat) (x : Int) : CostB (w.setCell ⟨g, i, none⟩ (.int .i64 x)) g (a.set i x) := by
  have h1 := Blk.set_ h i (.int .i64 x)
  have : (intsA a).setIfInBounds i (.int .i64 x) = intsA (a.set i x) := by
    unfold intsA
    rw [List.setIfInBounds_toArray, List.map_set]
  rw [this] at h1
  exact h1
theorem CostB.sl {w : World} {g : Nat} {a : List Int} (h : CostB w g a) (hl : a.length = 12) : SlI w (.slice (some ⟨g, 0, none⟩) 12 12) a := by
  refine ⟨_, 12, by rw [hl], by omega, by decide, fun _ => ⟨g, 0, rfl, Blk.lt h, fun k x hk j u hu => ?_⟩⟩
  match j, hu with
  | 0, hu =>
    simp at hu; subst hu
    simpa using CostB.cell h hk

/-- Which of two lists as long comes first. -/
theorem cmpL_drop {a b : List Int} {k : Nat} {x y : Int} (hx : a[k]? = some x) (hy : b[k]? = some y) : cmpL (a.drop k) (b.drop k) = if x < y then -1 else if y < x then 1 else cmpL (a.drop (k + 1)) (b.drop (k + 1)) := by
  rw [drop_at hx, drop_at hy, cmpL]
theorem cmpL_end {a b : List Int} {k : Nat} (ha : a.length ≤ k) (hb : b.length ≤ k) : cmpL (a.drop k) (b.drop k) = 0 := by
  rw [List.drop_eq_nil_of_le ha, List.drop_eq_nil_of_le hb, cmpL]
set_option maxHeartbeats 1000000 in
theorem cmpL_any (a b : List Int) (v v' : Value) (w : World) (ha : SlI w v a) (hb : SlI w v' b) (hl : a.length = b.length) :
    Calls Tryd.prog 112 #[v, v'] w fun e w' => e = .returned (.int .i64 (cmpL a b)) ∧ Ext w w' := by
  have HA := Lib.hid ha; have HB := Lib.hid hb
  obtain ⟨A, n, cp, rfl, hn, hlc, hcm⟩ := ha.form
  obtain ⟨A2, n2, cp2, rfl, hn2, hlc2, hcm2⟩ := hb.form
  have he : n2 = n := by have := hn.out; have := hn2.out; omega
  subst he
  clear ha hb hl
  go_enter Tryd.func112, Tryd.ntmps112
  go_wp2
  go_loopg [11] n2 (fun gg s wr => ∃ kk : Nat, kk ≤ n2 ∧ n2 - kk ≤ gg ∧ s = .int .i64 kk ∧ Aside (cmpL a b = cmpL (a.drop kk) (b.drop kk)) ∧ Aside (Ext w wr))
  case atStart => exact ⟨0, Nat.zero_le _, by omega, rfl, rfl, Ext.refl _⟩
  case round =>
    obtain ⟨kk, hkk, hg, rfl, FA, EX⟩ := hrel
    by_cases hlt : kk < n2
    · have hltz : (kk : Int) < (n2 : Int) := by omega
      obtain ⟨b1, o1, x, rfl, hx, -, hc1⟩ := HA.out.at_ hlt
      obtain ⟨b2, o2, y, rfl, hy, -, hc2⟩ := HB.out.at_ hlt
      have k1 := SlI.cell hc1 EX.out
      have k2 := SlI.cell hc2 EX.out
      have HD := Lib.hid (cmpL_drop hx hy)
      clear hx hy hc1 hc2
      go_wp2_with fail
      refine (compare_any x y _).mono ?_
      rintro e w1 ⟨rfl, hE⟩
      have E1 := Lib.hid (EX.out.trans hE); clear hE k1 k2
      by_cases h1 : x < y
      · have HC := Lib.hid (show cmpL a b = -1 by rw [FA.out, HD.out, if_pos h1])
        have hc : cmpI x y = -1 := by unfold cmpI; rw [if_pos h1]
        rw [hc]
        clear h1 hc
        go_wp2
        go_ret
        exact ⟨by rw [HC.out]; rfl, E1.out⟩
      · by_cases h2 : y < x
        · have HC := Lib.hid (show cmpL a b = 1 by rw [FA.out, HD.out, if_neg h1, if_pos h2])
          have hc : cmpI x y = 1 := by unfold cmpI; rw [if_neg h1, if_pos h2]
          rw [hc]
          clear h1 h2 hc
          go_wp2
          go_ret
          exact ⟨by rw [HC.out]; rfl, E1.out⟩
        · have HC := Lib.hid (show cmpL a b = cmpL (a.drop (kk + 1)) (b.drop (kk + 1)) by rw [FA.out, HD.out, if_neg h1, if_neg h2])
          have hc : cmpI x y = 0 := by unfold cmpI; rw [if_neg h1, if_neg h2]
          rw [hc]
          clear h1 h2 hc
          go_wp2
          go_roundg (n2 - (kk + 1))
          case measure => omega
          case rel => exact ⟨kk + 1, by omega, by omega, by simp, HC.out, E1.out⟩
    · have HE := Lib.hid (show kk = n2 by omega)
      have HC := Lib.hid (show cmpL a b = 0 by rw [FA.out, cmpL_end (by have := hn.out; omega) (by have := hn2.out; omega)])
      go_wp2
      go_ret
      exact ⟨by rw [HC.out]; rfl, EX.out⟩

set_option maxHeartbeats 1000000 in
theorem less12_any (a b : List Int) (w : World) (ha : a.length = 12) (hb : b.length = 12) :
    Calls Tryd.prog 108 #[.agg (intsA a), .agg (intsA b)] w fun e w' => e = .returned (.bool (decide (cmpL a b < 0))) ∧ Ext w w' := by
  obtain ⟨a0, a1, a2, a3, a4, a5, a6, a7, a8, a9, a10, a11, hae⟩ := twelve ha
  obtain ⟨b0, b1, b2, b3, b4, b5, b6, b7, b8, b9, b10, b11, hbe⟩ := twelve hb
  rw [show intsA a = #[.int .i64 a0, .int .i64 a1, .int .i64 a2, .int .i64 a3, .int .i64 a4, .int .i64 a5, .int .i64 a6, .int .i64 a7, .int .i64 a8, .int .i64 a9, .int .i64 a10, .int .i64 a11] by rw [hae]; rfl]
  rw [show intsA b = #[.int .i64 b0, .int .i64 b1, .int .i64 b2, .int .i64 b3, .int .i64 b4, .int .i64 b5, .int .i64 b6, .int .i64 b7, .int .i64 b8, .int .i64 b9, .int .i64 b10, .int .i64 b11] by rw [hbe]; rfl]
  have HA := Lib.hid ha; have HB := Lib.hid hb; have HAE := Lib.hid hae; have HBE := Lib.hid hbe
  clear ha hb hae hbe
  go_enter Tryd.func108, Tryd.ntmps108
  go_wp2
  generalize hw1 : World.alloc (World.alloc w _) _ = w1
  have E1 := Lib.hid (show Ext w w1 from hw1 ▸ (Ext.al _ _).alloc _)
  have B1 := Lib.hid (show CostB w1 w.heap.size a by rw [← hw1, HAE.out]; exact (Blk.new _ _ _).alloc _)
  have B2 := Lib.hid (show CostB w1 (w.heap.size + 1) b by rw [← hw1, HBE.out]; exact Blk.at_ (by simp))
  clear hw1
  refine wp_region_tame (fun W => Ext w1 W) (fun W W' => Ext W W') (by kernel_rfl) 9 rfl (by decide +kernel) (Ext.refl _).drew ?_
  repeat (apply tame_q rfl; (intro ρ W hC hr hD; (obtain ⟨hrc, hrg, hrf, hrs⟩ := hr); (simp [go_sem] at hD); go_simp; first | exact ⟨⟨hC, Ext.refl _⟩, rfl⟩ | exact ⟨⟨hC, RS.refl _⟩, rfl⟩ | exact rfl); simp only [List.nil_append, List.cons_append])
  apply tame_q rfl
  · intro ρ W hC hr hD
    obtain ⟨hrc, hrg, hrf, hrs⟩ := hr
    simp [go_sem] at hD
    go_simp
    refine (cmpL_any a b _ _ W (CostB.sl (Blk.ext B1.out hC) HA.out) (CostB.sl (Blk.ext B2.out hC) HB.out) (by rw [HA.out, HB.out])).mono ?_
    rintro e w' ⟨rfl, hE⟩
    exact ⟨_, rfl, ⟨hC.trans hE, hE⟩, rfl⟩
  simp only [List.nil_append, List.cons_append]
  repeat (apply tame_q rfl; (intro ρ W hC hr hD; (obtain ⟨hrc, hrg, hrf, hrs⟩ := hr); (simp [go_sem] at hD); go_simp; first | exact ⟨⟨hC, Ext.refl _⟩, rfl⟩ | exact ⟨⟨hC, RS.refl _⟩, rfl⟩ | exact rfl); simp only [List.nil_append, List.cons_append])
  refine tame_end 9 rfl rfl (fun ρ W hC hr hF => ?_)
  obtain ⟨hrc, hrg, hrf, hrs⟩ := hr
  simp [go_sem] at hF
  apply frame_to
  · go_simp
    exact rfl
  clear hF hrs hrc hrg hrf
  have E2 := Lib.hid (E1.out.trans hC); clear hC
  go_wp2
  go_ret
  exact ⟨rfl, E2.out⟩

theorem plusL_get {a d : List Int} {t : Int} {k : Nat} {x y : Int} (hx : a[k]? = some x) (hy : d[k]? = some y) : (plusL a d t)[k]? = some (x + t * y) := by
  unfold plusL; rw [List.getElem?_zipWith, hx, hy]
/-- Of the first k. -/
def plusTo (a d : List Int) (t : Int) (k : Nat) : List Int := (plusL a d t).take k ++ a.drop k
theorem plusTo_get {a d : List Int} {t : Int} {k : Nat} {x : Int} (hl : a.length = d.length) (hx : a[k]? = some x) : (plusTo a d t k)[k]? = some x := by
  have hk : k < a.length := (List.getElem?_eq_some_iff.1 hx).1
  unfold plusTo
  rw [List.getElem?_append_right (by rw [List.length_take]; omega), List.length_take, plusL_len, show k - min k (min a.length d.length) = 0 by omega, List.getElem?_drop]
  simpa using hx
theorem plusTo_step {a d : List Int} {t : Int} {k : Nat} {x y : Int} (hl : a.length = d.length) (hx : a[k]? = some x) (hy : d[k]? = some y) : (plusTo a d t k).set k (x + t * y) = plusTo a d t (k + 1) := by
  have hk : k < a.length := (List.getElem?_eq_some_iff.1 hx).1
  unfold plusTo
  rw [take_snoc (plusL_get hx hy), drop_at hx, List.set_append_right _ _ (by rw [List.length_take]; omega), List.length_take, plusL_len, show k - min k (min a.length d.length) = 0 by omega]
  simp
theorem plusTo_all {a d : List Int} {t : Int} {k : Nat} (hl : a.length = d.length) (hk : a.length = k) : plusTo a d t k = plusL a d t := by
  unfold plusTo
  rw [List.take_of_length_le (by rw [plusL_len]; omega), List.drop_eq_nil_of_le (by omega), List.append_nil]
set_option maxHeartbeats 2000000 in
theorem plus12_any (a d : List Int) (t : Int) (w : World) (ha : a.length = 12) (hd : d.length = 12) (hab : Bd 1000 a) (hdb : Bd 1 d) (ht : t = 1 ∨ t = -1) :
    Calls Tryd.prog 107 #[.agg (intsA a), .agg (intsA d), .int .i64 t] w fun e w' => e = .returned (.agg (intsA (plusL a d t))) ∧ Ext w w' := by
  obtain ⟨p0, p1, p2, p3, p4, p5, p6, p7, p8, p9, p10, p11, hpe⟩ := twelve (show (plusL a d t).length = 12 by rw [plusL_len, ha, hd]; rfl)
  obtain ⟨a0, a1, a2, a3, a4, a5, a6, a7, a8, a9, a10, a11, hae⟩ := twelve ha
  obtain ⟨b0, b1, b2, b3, b4, b5, b6, b7, b8, b9, b10, b11, hbe⟩ := twelve hd
  rw [show intsA a = #[.int .i64 a0, .int .i64 a1, .int .i64 a2, .int .i64 a3, .int .i64 a4, .int .i64 a5, .int .i64 a6, .int .i64 a7, .int .i64 a8, .int .i64 a9, .int .i64 a10, .int .i64 a11] by rw [hae]; rfl]
  rw [show intsA d = #[.int .i64 b0, .int .i64 b1, .int .i64 b2, .int .i64 b3, .int .i64 b4, .int .i64 b5, .int .i64 b6, .int .i64 b7, .int .i64 b8, .int .i64 b9, .int .i64 b10, .int .i64 b11] by rw [hbe]; rfl]
  rw [show intsA (plusL a d t) = #[.int .i64 p0, .int .i64 p1, .int .i64 p2, .int .i64 p3, .int .i64 p4, .int .i64 p5, .int .i64 p6, .int .i64 p7, .int .i64 p8, .int .i64 p9, .int .i64 p10, .int .i64 p11] by rw [hpe]; rfl]
  have HA := Lib.hid ha; have HB := Lib.hid hd; have HAE := Lib.hid hae; have HBE := Lib.hid hbe; have HPE := Lib.hid hpe; have HAB := Lib.hid hab; have HDB := Lib.hid hdb; have HT := Lib.hid ht
  clear ha hd hae hbe hpe hab hdb
  go_enter Tryd.func107, Tryd.ntmps107
  go_wp2
  generalize hw1 : World.alloc (World.alloc (World.alloc w _) _) _ = w1
  have E1 := Lib.hid (show Ext w w1 from hw1 ▸ ((Ext.al _ _).alloc _).alloc _)
  have B1 := Lib.hid (show CostB w1 w.heap.size (plusTo a d t 0) by rw [← hw1, HAE.out]; exact ((Blk.new _ _ _).alloc _).alloc _)
  have B2 := Lib.hid (show CostB w1 (w.heap.size + 1) d by rw [← hw1, HBE.out]; exact (Blk.at_ (by simp)).alloc _)
  have B3 := Lib.hid (show CostB w1 (w.heap.size + 1 + 1) (List.replicate 12 0) by rw [← hw1]; exact Blk.at_ (by simp))
  clear hw1
  go_loopg [8] 12 (fun gg s wr => ∃ kk : Nat, kk ≤ 12 ∧ 12 - kk ≤ gg ∧ s = .int .i64 kk ∧ Aside (CostB wr w.heap.size (plusTo a d t kk)) ∧ Aside (CostB wr (w.heap.size + 1) d) ∧ Aside (CostB wr (w.heap.size + 1 + 1) (List.replicate 12 0)) ∧ Aside (Ext w wr))
  case atStart => exact ⟨0, Nat.zero_le _, by omega, rfl, B1.out, B2.out, B3.out, E1.out⟩
  case round =>
    clear B1 B2 B3 E1
    obtain ⟨kk, hkk, hg, rfl, B1, B2, B3, E1⟩ := hrel
    by_cases hlt : kk < 12
    · have hltz : (kk : Int) < (12 : Int) := by omega
      obtain ⟨x, hx⟩ : ∃ x, a[kk]? = some x := ⟨_, List.getElem?_eq_getElem (by have := HA.out; omega)⟩
      obtain ⟨y, hy⟩ : ∃ y, d[kk]? = some y := ⟨_, List.getElem?_eq_getElem (by have := HB.out; omega)⟩
      have hxb := HAB.out x (List.mem_of_getElem? hx)
      have hyb := HDB.out y (List.mem_of_getElem? hy)
      have hty : -1 ≤ t * y ∧ t * y ≤ 1 := by rcases HT.out with h | h <;> rw [h] <;> omega
      have HX := Lib.hid hx; have HY := Lib.hid hy
      have HST := Lib.hid (plusTo_step (t := t) (by rw [HA.out, HB.out]) hx hy)
      have HG := Lib.hid (plusTo_get (d := d) (t := t) (by rw [HA.out, HB.out]) hx)
      obtain ⟨z, hz⟩ : ∃ z, z = t * y := ⟨_, rfl⟩
      have hw1 : IntKind.i64.wrap (t * y) = z := by rw [IntKind.wrap_i64]; omega
      have hw2 : IntKind.i64.wrap (x + z) = x + z := by rw [IntKind.wrap_i64]; omega
      rw [← hz] at HST
      have k1 := fun W (h : Ext wr W) => (CostB.cell (Blk.ext B1.out h) HG.out)
      have k2 := fun W (h : Ext wr W) => (CostB.cell (Blk.ext B2.out h) HY.out)
      clear hx hy hty hz
      go_wp2
      refine wp_region_tame_cut (fun W => Ext wr W) (fun W W' => Ext W W') (by kernel_rfl) 23 rfl _ rfl (by decide +kernel) (by decide +kernel) (by decide +kernel) rfl (Ext.refl _).drew ?_
      simp only [List.dropLast]
      repeat (apply tame_q rfl; (intro ρ W hC hr hD; (obtain ⟨hrc, hrg, hrf, hrs⟩ := hr); (simp [go_sem] at hD); go_simp; first | exact ⟨⟨hC, Ext.refl _⟩, rfl⟩ | exact ⟨⟨hC, RS.refl _⟩, rfl⟩ | exact rfl); simp only [List.nil_append, List.cons_append])
      refine tame_end 23 rfl rfl (fun ρ W hC hr hF => ?_)
      obtain ⟨hrc, hrg, hrf, hrs⟩ := hr
      simp [go_sem] at hF
      apply frame_to
      · go_simp
        exact rfl
      clear hF hrs hrc hrg hrf
      have E2 := Lib.hid (E1.out.trans hC)
      have C1 := Lib.hid (show CostB W _ _ from Blk.ext B1.out hC)
      have C2 := Lib.hid (show CostB W _ _ from Blk.ext B2.out hC)
      have C3 := Lib.hid (show CostB W _ _ from Blk.ext B3.out hC)
      have x0 := CostB.cell C1.out HG.out
      have xf := C1.out.frozen
      have xl := C1.out.lt
      clear hC k1 k2 B1 B2 B3 E1
      go_wp2
      go_roundg (12 - (kk + 1))
      case measure => omega
      case rel => exact ⟨kk + 1, by omega, by omega, by simp, by show CostB _ _ _; rw [← HST.out]; exact C1.out.set _ _, C2.out.far (by dsimp only; omega) _, C3.out.far (by dsimp only; omega) _, E2.out.setCell (by dsimp only; omega) _⟩
    · have HE := Lib.hid (show kk = 12 by omega)
      have BP := B1.out
      rw [HE.out, plusTo_all (by rw [HA.out, HB.out]) HA.out, HPE.out] at BP
      have BPH := Lib.hid (show Blk wr w.heap.size 125 #[.int .i64 p0, .int .i64 p1, .int .i64 p2, .int .i64 p3, .int .i64 p4, .int .i64 p5, .int .i64 p6, .int .i64 p7, .int .i64 p8, .int .i64 p9, .int .i64 p10, .int .i64 p11] from BP)
      have k0 := BPH.out.cell 0; have k1 := BPH.out.cell 1; have k2 := BPH.out.cell 2; have k3 := BPH.out.cell 3; have k4 := BPH.out.cell 4; have k5 := BPH.out.cell 5; have k6 := BPH.out.cell 6; have k7 := BPH.out.cell 7; have k8 := BPH.out.cell 8; have k9 := BPH.out.cell 9; have k10 := BPH.out.cell 10; have k11 := BPH.out.cell 11
      have xl := BPH.out.lt
      have B3' := Lib.hid (show Blk wr (w.heap.size + 1 + 1) 125 #[.int .i64 0, .int .i64 0, .int .i64 0, .int .i64 0, .int .i64 0, .int .i64 0, .int .i64 0, .int .i64 0, .int .i64 0, .int .i64 0, .int .i64 0, .int .i64 0] from B3.out)
      have q0 := B3'.out.cell 0; have q1 := B3'.out.cell 1; have q2 := B3'.out.cell 2; have q3 := B3'.out.cell 3; have q4 := B3'.out.cell 4; have q5 := B3'.out.cell 5; have q6 := B3'.out.cell 6; have q7 := B3'.out.cell 7; have q8 := B3'.out.cell 8; have q9 := B3'.out.cell 9; have q10 := B3'.out.cell 10; have q11 := B3'.out.cell 11
      have qf := B3'.out.frozen
      have ql := B3'.out.lt
      simp [intsA] at k0 k1 k2 k3 k4 k5 k6 k7 k8 k9 k10 k11 q0 q1 q2 q3 q4 q5 q6 q7 q8 q9 q10 q11
      clear BP
      go_wp2
      clear k0 k1 k2 k3 k4 k5 k6 k7 k8 k9 k10 k11 q0 q1 q2 q3 q4 q5 q6 q7 q8 q9 q10 q11
      refine ret_sets (w1 := wr) (g := w.heap.size + 1 + 1) [.int .i64 p0, .int .i64 p1, .int .i64 p2, .int .i64 p3, .int .i64 p4, .int .i64 p5, .int .i64 p6, .int .i64 p7, .int .i64 p8, .int .i64 p9, .int .i64 p10, .int .i64 p11] fun W' hW' => ?_
      have KB : Blk W' (w.heap.size + 1 + 1) 125 #[.int .i64 p0, .int .i64 p1, .int .i64 p2, .int .i64 p3, .int .i64 p4, .int .i64 p5, .int .i64 p6, .int .i64 p7, .int .i64 p8, .int .i64 p9, .int .i64 p10, .int .i64 p11] := by
        have h9 := B3'.out.setsW [.int .i64 p0, .int .i64 p1, .int .i64 p2, .int .i64 p3, .int .i64 p4, .int .i64 p5, .int .i64 p6, .int .i64 p7, .int .i64 p8, .int .i64 p9, .int .i64 p10, .int .i64 p11] 0
        rw [setsA_eq _ [.int .i64 0, .int .i64 0, .int .i64 0, .int .i64 0, .int .i64 0, .int .i64 0, .int .i64 0, .int .i64 0, .int .i64 0, .int .i64 0, .int .i64 0, .int .i64 0] 0 (by simp)] at h9
        rw [hW']; exact h9
      have EF := Lib.hid (show Ext w W' from hW' ▸ setsW_ext (by omega) _ E1.out 0)
      clear hW'
      have k0 := KB.cell 0; have k1 := KB.cell 1; have k2 := KB.cell 2; have k3 := KB.cell 3; have k4 := KB.cell 4; have k5 := KB.cell 5; have k6 := KB.cell 6; have k7 := KB.cell 7; have k8 := KB.cell 8; have k9 := KB.cell 9; have k10 := KB.cell 10; have k11 := KB.cell 11
      simp at k0 k1 k2 k3 k4 k5 k6 k7 k8 k9 k10 k11
      refine bodyPost_ret (v := .agg #[.int .i64 p0, .int .i64 p1, .int .i64 p2, .int .i64 p3, .int .i64 p4, .int .i64 p5, .int .i64 p6, .int .i64 p7, .int .i64 p8, .int .i64 p9, .int .i64 p10, .int .i64 p11]) (by simp [results, Tryd.results107, go_sem, k0, k1, k2, k3, k4, k5, k6, k7, k8, k9, k10, k11]) rfl ?_
      exact ⟨rfl, EF.out⟩
end Go.Proofs.YtafdbgielmlihaaDoor
/- slices.Insert at sales: one sale into a row of the call's own. -/
namespace Go.Proofs.YtafdbgielmlihaaDoor
open Go.RowKit Go.Shelf Go.Lib
set_option maxRecDepth 100000
set_option linter.unusedSimpArgs false

theorem encL_1 : ∀ x, ∀ u ∈ encL x, u.oneCell' = true := by
  intro x u hu
  simp only [encL, List.mem_cons, List.not_mem_nil, or_false] at hu
  rcases hu with rfl | rfl | rfl | rfl | rfl <;> rfl
theorem flatL_1 (l : List Sale) : ∀ u ∈ l.flatMap encL, u.oneCell' = true := by
  intro u hu
  obtain ⟨x, _, hx⟩ := List.mem_flatMap.1 hu
  exact encL_1 x u hx
theorem flatL_len (l : List Sale) : (l.flatMap encL).length = l.length * 5 := enc_len (enc := encL) (fun _ => rfl) l
theorem sizeL : (Tryd.prog.info? 68).map (·.size) = some 5 := by kernel_rfl
/-- How the call ends. -/
def InsP (l : List Sale) (x : Sale) (i base : Nat) (v : Value) (w : World) (e : Ending) (w' : World) : Prop :=
  (∃ v', e = .returned v' ∧ Own encL 68 5 w' base v' (l.take i ++ x :: l.drop i)) ∧ w.grownBy w' v.ownBlock

set_option maxHeartbeats 1000000 in
theorem ins_end (l : List Sale) (x : Sale) (vb : Nat) (v : Value) (base : Nat) (w : World) (hl : l.length ≤ 1000) (ho : Own encL 68 5 w base v l) (hb : base ≤ w.heap.size)
    (hx : Blk w vb 68 #[.int .i64 x.number, .int .i64 x.seller, .int .i64 x.buyer, .int .i64 x.bales, .int .i64 x.price]) :
    Calls Tryd.prog 119 #[v, .int .i64 (l.length : Int), .slice (some ⟨vb, 0, none⟩) 1 1] w (InsP l x l.length base v w) := by
  have HO := Lib.hid ho
  have HX := Lib.hid hx
  have HL := Lib.hid hl
  have HF := Lib.hid (show l.take l.length ++ x :: l.drop l.length = l ++ [x] by simp)
  obtain ⟨A, n, c, rfl, hn, hlc, hcm⟩ := (show SlL w v l from Own.sl (enc := encL) (fun _ => rfl) ho).form
  have hnl := hn.out
  have HC := Lib.hid (show ∀ j u, (encL x)[j]? = some u → w.cell? ⟨vb, j, none⟩ = some u by
    intro j u hu
    have := hx.cell j
    rw [this]
    simpa using hu)
  rw [← hnl]
  have HNN := Lib.hid hnl
  clear ho hx hl hnl
  by_cases hcn : c = n
  all_goals
    try subst hcn
    go_enter Tryd.func119, Tryd.ntmps119
    go_wp2_with (at_builtin; refine wpList_app encL 23 68 5 _ 40 Tryd.underlying23 info68x rfl (by decide) (by decide) (fun _ => rfl) encL_1 rfl (.tmp 23) (.tmp 24) rfl base _ l rfl HO.out vb 1 x rfl HC.out (by have := HL.out; omega) hb ?_)
    intro g cap w1 hown hg1 hbel hgr
    have HW := Lib.hid hown
    have HG := Lib.hid hgr
    clear hown hgr hbel
    go_wp2
    go_ret
    exact ⟨⟨_, rfl, by show Own _ _ _ _ _ (.slice (some ⟨g, 0, none⟩) (l.length + 1) cap) _; rw [HNN.out, HF.out]; exact HW.out⟩, HG.out⟩

/-- The row behind it, in any case. -/
theorem ins_row {l : List Sale} {x : Sale} {i base g cap : Nat} {W : World} {cur rest : List Value} (hi : i ≤ l.length) (hg : base ≤ g) (hh : W.heap[g]? = some (.cells cur.toArray 68 (0, 0))) (hc : l.length + 1 ≤ cap) (hm : cap ≤ maxLen) (hs : cur.length = cap * 5)
    (he : cur = (l.take i).flatMap encL ++ (encL x ++ ((l.drop i).flatMap encL ++ rest))) : Own encL 68 5 W base (.slice (some ⟨g, 0, none⟩) (l.length + 1) cap) (l.take i ++ x :: l.drop i) := by
  have hlen : (l.take i ++ x :: l.drop i).length = l.length + 1 := by simp; omega
  refine ⟨flatL_len _, .inr ⟨g, cap, cur.toArray, by rw [hlen], hg, hh, by rw [hlen]; exact hc, hm, by simpa using hs, ?_⟩⟩
  have hf : (l.take i ++ x :: l.drop i).flatMap encL = (l.take i).flatMap encL ++ (encL x ++ (l.drop i).flatMap encL) := by rw [List.flatMap_append, List.flatMap_cons]
  have hl2 : ((l.take i).flatMap encL ++ (encL x ++ (l.drop i).flatMap encL)).length = (l.take i ++ x :: l.drop i).length * 5 := by rw [← hf, flatL_len]
  rw [hf, ← hl2, he]
  show List.take _ ((l.take i).flatMap encL ++ (encL x ++ ((l.drop i).flatMap encL ++ rest))) = _
  rw [show (l.take i).flatMap encL ++ (encL x ++ ((l.drop i).flatMap encL ++ rest)) = ((l.take i).flatMap encL ++ (encL x ++ (l.drop i).flatMap encL)) ++ rest by simp only [List.append_assoc]]
  exact List.take_left

set_option maxHeartbeats 2000000 in
theorem ins_shift (l : List Sale) (x : Sale) (i vb g n c : Nat) (base : Nat) (w : World) (cur : Array Value) (hi : i < n) (hn : n = l.length) (hl : n ≤ 1000) (hroom : n + 1 ≤ c) (hcm : c ≤ maxLen) (hg : base ≤ g)
    (hh : w.heap[g]? = some (.cells cur 68 (0, 0))) (hs : cur.size = c * 5) (ht : cur.toList.take (n * 5) = l.flatMap encL) (hvb : g ≠ vb)
    (hx : Blk w vb 68 #[.int .i64 x.number, .int .i64 x.seller, .int .i64 x.buyer, .int .i64 x.bales, .int .i64 x.price]) :
    Calls Tryd.prog 119 #[.slice (some ⟨g, 0, none⟩) n c, .int .i64 (i : Int), .slice (some ⟨vb, 0, none⟩) 1 1] w (InsP l x i base (.slice (some ⟨g, 0, none⟩) n c) w) := by
  have hov : ∀ lb cb, (callFunc 125 #[.slice (some ⟨vb, 0, none⟩) 1 1, .slice (some ⟨g, (i + 1) * 5, none⟩) lb cb]).run Tryd.prog w = .ok (.value (.bool false)) w := fun lb cb => by
    rw [run_callFunc_extern Tryd.func125 (by kernel_rfl) (by kernel_rfl) (by kernel_rfl) (e := Extern.SlicesOverlaps.overlaps #[23, 23] #[4]) (by kernel_rfl),
      Lib.run_overlaps_apart w 23 4 68 Tryd.underlying23 5 Tryd.sizeOf68 ⟨vb, 0, none⟩ ⟨g, (i + 1) * 5, none⟩ 1 1 lb cb (fun e => hvb e.symm) 68 68 5 (c * 5) (by unfold World.shape?; unfold Blk at hx; rw [hx]; rfl) (by unfold World.shape?; rw [hh]; simp [hs]) (by omega) (hx.frozen 0) (hx.frozen 5)]
    rfl
  unfold maxLen at hcm
  have hz2 : ¬ ((i : Int) = (n : Int)) := by omega
  have hz3 : ¬ (c : Int) < (n : Int) + 1 := by omega
  have hiz : (i : Int) ≤ (n : Int) := by omega
  have hb2 : ¬ (c = i + 1) := by omega
  have hb4 : ¬ (c = i) := by omega
  have hb3 : (i : Int) + 1 ≤ (n : Int) + 1 := by omega
  have hb5 : (i : Int) ≤ (n : Int) + 1 := by omega
  have hb6 : (n : Int) + 1 ≤ (c : Int) := by omega
  have hb7 : ((i : Int) + 1).toNat = i + 1 := by omega
  have hb8 : ((n : Int) + 1).toNat = n + 1 := by omega
  have hb9 : IntKind.i64.wrap ((i : Int) + 1) = (i : Int) + 1 := by rw [IntKind.wrap_i64]; omega
  have hb10 : IntKind.i64.wrap ((n : Int) + 1) = (n : Int) + 1 := by rw [IntKind.wrap_i64]; omega
  have hb11 : (0 : Int) ≤ (i : Int) + 1 := by omega
  have hb12 : (0 : Int) ≤ (n : Int) + 1 := by omega
  have HN := Lib.hid hn; have HT := Lib.hid ht; have HS := Lib.hid hs; have HX := Lib.hid hx; have HH := Lib.hid hh
  clear hn ht hs hx hh
  go_enter Tryd.func119, Tryd.ntmps119
  go_wp2_with (simp only [hov])
  clear hov
  refine wp_region_tame_cut (fun W => Ext w W) (fun W W' => Ext W W') (by kernel_rfl) 95 rfl _ rfl (by decide +kernel) (by decide +kernel) (by decide +kernel) rfl (Ext.refl _).drew ?_
  simp only [List.dropLast]
  repeat (apply tame_q rfl; (intro ρ W hC hr hD; (obtain ⟨hrc, hrg, hrf, hrs⟩ := hr); (simp [go_sem] at hD); go_simp; first | exact ⟨⟨hC, Ext.refl _⟩, rfl⟩ | exact ⟨⟨hC, RS.refl _⟩, rfl⟩ | exact rfl); simp only [List.nil_append, List.cons_append])
  refine tame_end 95 rfl rfl (fun ρ W hC hr hF => ?_)
  obtain ⟨hrc, hrg, hrf, hrs⟩ := hr
  simp [go_sem] at hF
  apply frame_to
  · go_simp
    exact rfl
  clear hF hrs hrc hrg hrf
  have HCW := Lib.hid hC
  have hgl : g < w.heap.size := (Array.getElem?_eq_some_iff.1 HH.out).1
  have HW0 := Lib.hid (show W.heap[g]? = some (.cells cur 68 (0, 0)) from (hC.block g hgl).trans HH.out)
  have hlast : cur.toList.drop (i * 5) = (l.drop i).flatMap encL ++ cur.toList.drop (n * 5) := by
    have h1 : cur.toList = l.flatMap encL ++ cur.toList.drop (n * 5) := by rw [← HT.out, List.take_append_drop]
    have h2 : (l.flatMap encL).length = n * 5 := by rw [flatL_len, HN.out]
    conv => lhs; rw [h1]
    rw [List.drop_append_of_le_length (by rw [h2]; omega), flat_drop (enc := encL) (fun _ => rfl) l i (by have := HN.out; omega)]
  have HLA := Lib.hid hlast
  have HDL := Lib.hid (show ((l.drop i).flatMap encL).length = (n - i) * 5 by rw [flatL_len, List.length_drop, HN.out])
  have hcp := run_copy_rowN (P := Tryd.prog) W 23 23 3 68 5 g ((i + 1) * 5) (n - i) (c - (i + 1)) ⟨g, i * 5, none⟩ (n + 1 - i) (c - i) cur 68 ((l.drop i).flatMap encL) Tryd.underlying23 sizeL HW0.out
    (by rw [HDL.out]; congr 1; simp only [Nat.min_def]; split <;> omega) (fun j v hj => by
      rw [Addr.add_lit, cell_of_row W g _ cur 68 (0, 0) HW0.out]
      have h3 : (cur.toList.drop (i * 5))[j]? = some v := by rw [HLA.out, List.getElem?_append_left (List.getElem?_eq_some_iff.1 hj).1]; exact hj
      rw [List.getElem?_drop] at h3
      simpa using h3) (by rw [HDL.out]; have := HS.out; omega) (flatL_1 _)
  have hmin : Nat.min (n + 1 - i) (n - i) = n - i := by simp only [Nat.min_def]; split <;> omega
  rw [hmin] at hcp
  have hrl : (cur.toList.take ((i + 1) * 5) ++ (l.drop i).flatMap encL ++ cur.toList.drop ((i + 1) * 5 + ((l.drop i).flatMap encL).length)).length = c * 5 := by
    simp only [List.length_append, List.length_take, List.length_drop, HDL.out, Array.length_toList, HS.out]
    omega
  generalize hr1 : (cur.toList.take ((i + 1) * 5) ++ (l.drop i).flatMap encL ++ cur.toList.drop ((i + 1) * 5 + ((l.drop i).flatMap encL).length)) = row1 at hcp hrl
  have HR1 := Lib.hid hr1
  have HRL := Lib.hid hrl
  have HCP := Lib.hid hcp
  have hW1 := setRow_heap W g cur row1.toArray 68 (0, 0) HW0.out
  have hxl : vb < w.heap.size := HX.out.lt
  have hxv : ∀ j v, (encL x)[j]? = some v → (W.setRow g row1.toArray).cell? ((⟨vb, 0, none⟩ : Addr).add j) = some v := by
    intro j v hj
    rw [Addr.add_lit, Nat.zero_add]
    have h1 : Blk (W.setRow g row1.toArray) vb 68 #[.int .i64 x.number, .int .i64 x.seller, .int .i64 x.buyer, .int .i64 x.bales, .int .i64 x.price] := (setRow_other W g vb _ (fun e => hvb e.symm)).trans ((hC.block vb hxl).trans HX.out)
    rw [h1.cell]
    simpa using hj
  have hcp2 := run_copy_rowN (P := Tryd.prog) (W.setRow g row1.toArray) 23 23 3 68 5 g (i * 5) (n + 1 - i) (c - i) ⟨vb, 0, none⟩ 1 1 row1.toArray 68 (encL x) Tryd.underlying23 sizeL hW1
    (show (encL x).length = Nat.min 1 (n + 1 - i) * 5 by
        have : Nat.min 1 (n + 1 - i) = 1 := by simp only [Nat.min_def]; split <;> omega
        rw [this]; rfl) hxv (by simp [HRL.out]; omega) (encL_1 x)
  have hfin := setRow_heap (W.setRow g row1.toArray) g row1.toArray (row1.toArray.toList.take (i * 5) ++ encL x ++ row1.toArray.toList.drop (i * 5 + (encL x).length)).toArray 68 (0, 0) hW1
  have hgr := grown_tr (grown_tr (ext_row HCW.out (some g)) (grown_row (w := W) (g := g) row1.toArray)) (grown_row (w := W.setRow g row1.toArray) (g := g) (row1.toArray.toList.take (i * 5) ++ encL x ++ row1.toArray.toList.drop (i * 5 + (encL x).length)).toArray)
  have hrow : (row1.toArray.toList.take (i * 5) ++ encL x ++ row1.toArray.toList.drop (i * 5 + (encL x).length)) = (l.take i).flatMap encL ++ (encL x ++ ((l.drop i).flatMap encL ++ cur.toList.drop ((i + 1) * 5 + (n - i) * 5))) := by
    have h0 : (i + 1) * 5 = i * 5 + 5 := by omega
    have h4 : cur.toList.take (i * 5) = (l.take i).flatMap encL := by
      rw [← flat_take (enc := encL) (sz := 5) (fun _ => rfl) l i (by have := HN.out; omega), ← HT.out, List.take_take, Nat.min_eq_left (Nat.mul_le_mul_right _ (by omega))]
    have h5 : row1 = cur.toList.take (i * 5) ++ ((cur.toList.drop (i * 5)).take 5 ++ ((l.drop i).flatMap encL ++ cur.toList.drop ((i + 1) * 5 + (n - i) * 5))) := by
      rw [← HR1.out, HDL.out, h0, List.take_add]
      simp only [List.append_assoc]
    have h6 : (cur.toList.take (i * 5)).length = i * 5 := by rw [List.length_take, Array.length_toList, HS.out]; omega
    have h7 : ((cur.toList.drop (i * 5)).take 5).length = 5 := by rw [List.length_take, List.length_drop, Array.length_toList, HS.out]; omega
    show row1.take (i * 5) ++ encL x ++ row1.drop (i * 5 + 5) = _
    have h8 : row1.drop (i * 5 + 5) = (l.drop i).flatMap encL ++ cur.toList.drop ((i + 1) * 5 + (n - i) * 5) := by
      rw [h5, ← List.append_assoc]
      exact List.drop_left' (by rw [List.length_append, h6, h7])
    rw [h8, h5, List.take_append_of_le_length (by omega), List.take_of_length_le (by omega), h4, List.append_assoc]
  rw [hrow] at hcp2 hfin hgr
  have hlen2 : ((l.take i).flatMap encL ++ (encL x ++ ((l.drop i).flatMap encL ++ cur.toList.drop ((i + 1) * 5 + (n - i) * 5)))).length = c * 5 := by
    simp only [List.length_append, flatL_len, List.length_take, List.length_drop, Array.length_toList, HS.out]
    have := HN.out
    simp
    omega
  have HO := Lib.hid (ins_row (l := l) (x := x) (i := i) (base := base) (cap := c) (by have := HN.out; omega) hg hfin (by have := HN.out; omega) (by unfold maxLen; omega) hlen2 rfl)
  have HGR := Lib.hid hgr
  have HCP2 := Lib.hid hcp2
  clear hr1 hlast hC hrl hfin hgr hrow hlen2 hxv hW1 hmin hcp hcp2
  have k1 := HCP.out
  have k2 := HCP2.out
  go_wp2
  go_ret
  exact ⟨⟨_, rfl, by show Own _ _ _ _ _ (.slice (some ⟨g, 0, none⟩) (n + 1) c) _; rw [HN.out]; rw [HN.out] at HO; exact HO.out⟩, HGR.out⟩

/-- append of zeros onto the head of a row that has no room: a new row. -/
theorem wpList_zerosL {ops : Array Oper} {rest : List Oper} {o : Oper} {a : Act} {Q : Exit → Act → World → Prop} {w : World} (hgd : o.guard = none) (s x : Operand)
    (ho : o.op = .call { callee := .builtin .append, args := #[s, x], argTypes := #[23, 3] }) {g n c i : Nat} {l : List Sale} {cur : Array Value} (hn : n = l.length) (hl : n ≤ 1000) (hi : i < n) (hroom : c < n + 1) (hnc : n ≤ c)
    (hh : w.heap[g]? = some (.cells cur 68 (0, 0))) (ht : cur.toList.take (n * 5) = l.flatMap encL)
    (hs : a.eval s = .slice (some ⟨g, 0, none⟩) i c) (hx : a.eval x = .int .i64 ((n : Int) + 1 - (i : Int)))
    (h : ∀ G W' (row rest' : List Value), W'.heap[w.heap.size]? = some (.cells row.toArray 68 (0, 0)) → Ext w W' → row = (l.take i).flatMap encL ++ rest' → row.length = G * 5 → n + 1 ≤ G → G ≤ maxLen →
      wpList Tryd.prog ops Q rest (a.put o.dst (.slice (some ⟨w.heap.size, 0, none⟩) (n + 1) G)) W') :
    wpList Tryd.prog ops Q (o :: rest) a w := by
  obtain ⟨i0, hi0, hz0, hzs, hzb⟩ := info_parts info68x
  have hld : ((l.take i).flatMap encL).length = i * 5 := by rw [flatL_len, List.length_take, ← hn, Nat.min_eq_left (by omega)]
  have hold : (Builtin.firstCells i0.size i (.slice (some ⟨g, 0, none⟩) i c)).run Tryd.prog w.drew = .ok ((l.take i).flatMap encL).toArray w.drew := by
    rw [hzs]
    exact run_firstCells_some w.drew 5 i ⟨g, 0, none⟩ i c _ hld (fun j v hj => by
      rw [Addr.add_lit, Nat.zero_add]
      show w.cell? ⟨g, j, none⟩ = some v
      rw [cell_of_row w g j cur 68 (0, 0) hh]
      have hjl := (List.getElem?_eq_some_iff.1 hj).1
      rw [hld] at hjl
      have h1 : (cur.toList.take (n * 5))[j]? = some v := by
        rw [ht]
        have h2 := flat_take (enc := encL) (sz := 5) (fun _ => rfl) l i (by omega)
        rw [← h2, List.getElem?_take_of_lt (by omega)] at hj
        exact hj
      rw [List.getElem?_take_of_lt (by omega)] at h1
      simpa using h1)
  have hkk : (n : Int) + 1 - (i : Int) = ((n + 1 - i : Nat) : Int) := by omega
  have hik : i + (n + 1 - i) = n + 1 := by omega
  have hr := Lib.run_append_grow_zeros w 23 3 o.type 68 i0 _ .i64 .i64 Tryd.underlying23 Tryd.underlying3 hi0 hz0 (some ⟨g, 0, none⟩) i c ((l.take i).flatMap encL) hold (n + 1 - i) (by omega) (by omega) (by omega) (by omega) (by rw [hzb]; omega) (by rw [hzb, hik]; exact growslice_fits (by omega) (by omega))
  rw [hik] at hr
  have hG := grownCap_ge w (n + 1) c 68
  have hGm := grownCap_le_maxLen w (n + 1) c 68 (by unfold maxLen; omega)
  generalize hGe : grownCap w (n + 1) c 68 = G at *
  generalize hR : (((l.take i).flatMap encL).toArray ++ Builtin.zeroCells (Value.agg #[.int .i64 0, .int .i64 0, .int .i64 0, .int .i64 0, .int .i64 0]).cells (n + 1 - i) ++ Builtin.zeroCells (Value.agg #[.int .i64 0, .int .i64 0, .int .i64 0, .int .i64 0, .int .i64 0]).cells (G - (n + 1))) = R at hr
  refine Lib.wpList_append_run w hgd s x 23 3 ho _ _ hs hx _ _ (by rw [hkk]; exact hr) ?_
  refine h G _ R.toList _ (by rw [Array.toArray_toList]; exact heap_alloc_new w.drew _) ((Ext.refl w).drew.alloc _) (by rw [← hR, Array.toList_append, Array.toList_append, List.append_assoc]) ?_ hG hGm
  rw [← hR]
  simp only [Array.toList_append, List.length_append, hld, Array.length_toList, size_zeroCells]
  have e5 : (Value.agg #[.int .i64 0, .int .i64 0, .int .i64 0, .int .i64 0, .int .i64 0] : Value).cells.size = 5 := rfl
  rw [e5]
  omega

set_option maxHeartbeats 2000000 in
theorem ins_grow (l : List Sale) (x : Sale) (i vb g n c : Nat) (base : Nat) (w : World) (cur : Array Value) (hi : i < n) (hn : n = l.length) (hl : n ≤ 1000) (hnc : n ≤ c) (hroom : c < n + 1) (hb : base ≤ w.heap.size)
    (hh : w.heap[g]? = some (.cells cur 68 (0, 0))) (ht : cur.toList.take (n * 5) = l.flatMap encL)
    (hx : Blk w vb 68 #[.int .i64 x.number, .int .i64 x.seller, .int .i64 x.buyer, .int .i64 x.bales, .int .i64 x.price]) :
    Calls Tryd.prog 119 #[.slice (some ⟨g, 0, none⟩) n c, .int .i64 (i : Int), .slice (some ⟨vb, 0, none⟩) 1 1] w (InsP l x i base (.slice (some ⟨g, 0, none⟩) n c) w) := by
  have hz2 : ¬ ((i : Int) = (n : Int)) := by omega
  have hz3 : (c : Int) < (n : Int) + 1 := by omega
  have hiz : (i : Int) ≤ (n : Int) := by omega
  have hic : (i : Int) ≤ (c : Int) := by omega
  have hb4 : ¬ (c = i) := by omega
  have hb7 : ((i : Int) + 1).toNat = i + 1 := by omega
  have hb9 : IntKind.i64.wrap ((i : Int) + 1) = (i : Int) + 1 := by rw [IntKind.wrap_i64]; omega
  have hb10 : IntKind.i64.wrap ((n : Int) + 1) = (n : Int) + 1 := by rw [IntKind.wrap_i64]; omega
  have hb11 : (0 : Int) ≤ (i : Int) + 1 := by omega
  have hb13 : IntKind.i64.wrap ((n : Int) + 1 - (i : Int)) = (n : Int) + 1 - (i : Int) := by rw [IntKind.wrap_i64]; omega
  have hb14 : (i : Int) + 1 ≤ (n : Int) + 1 := by omega
  have HN := Lib.hid hn; have HT := Lib.hid ht; have HX := Lib.hid hx; have HH := Lib.hid hh
  clear hn ht hx hh
  go_enter Tryd.func119, Tryd.ntmps119
  go_wp2_with (at_builtin; refine wpList_zerosL rfl (.tmp 34) (.tmp 39) rfl HN.out hl hi hroom hnc HH.out HT.out rfl rfl ?_)
  intro G W1 row rest' hrow1 hext hrow hrlen hG1 hG2
  unfold maxLen at hG2
  have hc1 : ¬ (G = i) := by omega
  have hc2 : ¬ (G = i + 1) := by omega
  have hc3 : (i : Int) ≤ (G : Int) := by omega
  have hld : ((l.take i).flatMap encL).length = i * 5 := by rw [flatL_len, List.length_take, ← HN.out, Nat.min_eq_left (by omega)]
  have hxl : vb < w.heap.size := HX.out.lt
  have hgl : g < w.heap.size := (Array.getElem?_eq_some_iff.1 HH.out).1
  have hxv : ∀ j v, (encL x)[j]? = some v → W1.cell? ((⟨vb, 0, none⟩ : Addr).add j) = some v := by
    intro j v hj
    rw [Addr.add_lit, Nat.zero_add, (HX.out.ext hext).cell]
    simpa using hj
  have k1 := run_copy_rowN (P := Tryd.prog) W1 23 23 3 68 5 w.heap.size (i * 5) (n + 1 - i) (G - i) ⟨vb, 0, none⟩ 1 1 row.toArray 68 (encL x) Tryd.underlying23 sizeL hrow1
    (show (encL x).length = Nat.min 1 (n + 1 - i) * 5 by
        have : Nat.min 1 (n + 1 - i) = 1 := by simp only [Nat.min_def]; split <;> omega
        rw [this]; rfl) hxv (by simp [hrlen]; omega) (encL_1 x)
  have hr1 : row.toArray.toList.take (i * 5) ++ encL x ++ row.toArray.toList.drop (i * 5 + (encL x).length) = (l.take i).flatMap encL ++ (encL x ++ row.drop (i * 5 + 5)) := by
    show row.take (i * 5) ++ encL x ++ row.drop (i * 5 + 5) = _
    have h1 : row.take (i * 5) = (l.take i).flatMap encL := by rw [hrow, ← hld]; exact List.take_left
    rw [h1, List.append_assoc]
  rw [hr1] at k1
  have hlen1 : ((l.take i).flatMap encL ++ (encL x ++ row.drop (i * 5 + 5))).length = G * 5 := by
    simp only [List.length_append, hld, List.length_drop, hrlen]
    simp
    omega
  have hW2h := setRow_heap W1 w.heap.size row.toArray ((l.take i).flatMap encL ++ (encL x ++ row.drop (i * 5 + 5))).toArray 68 (0, 0) hrow1
  have hE2 : Ext w (W1.setRow w.heap.size ((l.take i).flatMap encL ++ (encL x ++ row.drop (i * 5 + 5))).toArray) := ext_grown hext (grown_row _) (Nat.le_refl _)
  generalize hW2 : W1.setRow w.heap.size ((l.take i).flatMap encL ++ (encL x ++ row.drop (i * 5 + 5))).toArray = W2 at k1 hW2h hE2
  have HW2 := Lib.hid hW2h
  have HE2 := Lib.hid hE2
  have HL1 := Lib.hid hlen1
  have HG := Lib.hid (show n + 1 ≤ G ∧ G ≤ 9223372036854775807 by omega)
  clear hW2 hW2h hE2 hlen1 hr1 hxv hrow1 hext hrow hrlen hld
  go_wp2
  refine wp_region_tame_cut (fun W => Ext W2 W) (fun W W' => Ext W W') (by kernel_rfl) 95 rfl _ rfl (by decide +kernel) (by decide +kernel) (by decide +kernel) rfl (Ext.refl _).drew ?_
  simp only [List.dropLast]
  clear k1
  repeat (apply tame_q rfl; (intro ρ W hC hr hD; (obtain ⟨hrc, hrg, hrf, hrs⟩ := hr); (simp [go_sem] at hD); go_simp; first | exact ⟨⟨hC, Ext.refl _⟩, rfl⟩ | exact ⟨⟨hC, RS.refl _⟩, rfl⟩ | exact rfl); simp only [List.nil_append, List.cons_append])
  refine tame_end 95 rfl rfl (fun ρ W hC hr hF => ?_)
  obtain ⟨hrc, hrg, hrf, hrs⟩ := hr
  simp [go_sem] at hF
  apply frame_to
  · go_simp
    exact rfl
  clear hF hrs hrc hrg hrf
  have HCW := Lib.hid hC
  have hrl : w.heap.size < W2.heap.size := (Array.getElem?_eq_some_iff.1 HW2.out).1
  have HW3 := Lib.hid ((hC.block _ hrl).trans HW2.out)
  have HDL := Lib.hid (show ((l.drop i).flatMap encL).length = (n - i) * 5 by rw [flatL_len, List.length_drop, HN.out])
  have hlast : cur.toList.drop (i * 5) = (l.drop i).flatMap encL ++ cur.toList.drop (n * 5) := by
    have h1 : cur.toList = l.flatMap encL ++ cur.toList.drop (n * 5) := by rw [← HT.out, List.take_append_drop]
    have h2 : (l.flatMap encL).length = n * 5 := by rw [flatL_len, HN.out]
    conv => lhs; rw [h1]
    rw [List.drop_append_of_le_length (by rw [h2]; omega), flat_drop (enc := encL) (fun _ => rfl) l i (by have := HN.out; omega)]
  have HW4 := Lib.hid (show W.heap[g]? = some (.cells cur 68 (0, 0)) from ((HE2.out.trans hC).block g hgl).trans HH.out)
  have k2 := run_copy_rowN (P := Tryd.prog) W 23 23 3 68 5 w.heap.size ((i + 1) * 5) (n - i) (G - (i + 1)) ⟨g, i * 5, none⟩ (n - i) (c - i) _ 68 ((l.drop i).flatMap encL) Tryd.underlying23 sizeL HW3.out
    (by rw [HDL.out]; congr 1; simp only [Nat.min_def]; split <;> omega) (fun j v hj => by
      rw [Addr.add_lit, cell_of_row W g _ cur 68 (0, 0) HW4.out]
      have h3 : (cur.toList.drop (i * 5))[j]? = some v := by rw [hlast, List.getElem?_append_left (List.getElem?_eq_some_iff.1 hj).1]; exact hj
      rw [List.getElem?_drop] at h3
      simpa using h3) (by rw [HDL.out]; have := HL1.out; have := HG.out; simp only [List.size_toArray]; omega) (flatL_1 _)
  have hmin : Nat.min (n - i) (n - i) = n - i := by simp only [Nat.min_def]; split <;> omega
  rw [hmin] at k2
  have hr2 : (((l.take i).flatMap encL ++ (encL x ++ row.drop (i * 5 + 5))).toArray.toList.take ((i + 1) * 5) ++ (l.drop i).flatMap encL ++ ((l.take i).flatMap encL ++ (encL x ++ row.drop (i * 5 + 5))).toArray.toList.drop ((i + 1) * 5 + ((l.drop i).flatMap encL).length)) =
      (l.take i).flatMap encL ++ (encL x ++ ((l.drop i).flatMap encL ++ ((l.take i).flatMap encL ++ (encL x ++ row.drop (i * 5 + 5))).drop ((i + 1) * 5 + ((l.drop i).flatMap encL).length))) := by
    show ((l.take i).flatMap encL ++ (encL x ++ row.drop (i * 5 + 5))).take ((i + 1) * 5) ++ (l.drop i).flatMap encL ++ _ = _
    have h1 : ((l.take i).flatMap encL ++ (encL x ++ row.drop (i * 5 + 5))).take ((i + 1) * 5) = (l.take i).flatMap encL ++ encL x := by
      rw [← List.append_assoc]
      refine List.take_left' ?_
      rw [List.length_append, flatL_len, List.length_take, ← HN.out, Nat.min_eq_left (by omega)]
      simp
      omega
    rw [h1]
    simp only [List.append_assoc]
  rw [hr2] at k2
  have hfin := setRow_heap W w.heap.size _ ((l.take i).flatMap encL ++ (encL x ++ ((l.drop i).flatMap encL ++ ((l.take i).flatMap encL ++ (encL x ++ row.drop (i * 5 + 5))).drop ((i + 1) * 5 + ((l.drop i).flatMap encL).length)))).toArray 68 (0, 0) HW3.out
  have hlen2 : ((l.take i).flatMap encL ++ (encL x ++ ((l.drop i).flatMap encL ++ ((l.take i).flatMap encL ++ (encL x ++ row.drop (i * 5 + 5))).drop ((i + 1) * 5 + ((l.drop i).flatMap encL).length)))).length = G * 5 := by
    have h1 : ((l.take i).flatMap encL).length = i * 5 := by rw [flatL_len, List.length_take, ← HN.out, Nat.min_eq_left (by omega)]
    have h2 : (encL x).length = 5 := rfl
    have h3 := HL1.out
    have := HG.out
    rw [List.length_append, List.length_append, List.length_append, List.length_drop, h3, HDL.out, h1, h2]
    omega
  generalize hfr : ((l.take i).flatMap encL ++ (encL x ++ ((l.drop i).flatMap encL ++ ((l.take i).flatMap encL ++ (encL x ++ row.drop (i * 5 + 5))).drop ((i + 1) * 5 + ((l.drop i).flatMap encL).length)))) = fr at k2 hfin hlen2
  have HO := Lib.hid (ins_row (l := l) (x := x) (i := i) (base := base) (g := w.heap.size) (cap := G) (by have := HN.out; omega) hb hfin (by have := HN.out; have := HG.out; omega) (by have := HG.out; unfold maxLen; omega) hlen2 hfr.symm)
  have HEX := Lib.hid (ext_grown (HE2.out.trans hC) (grown_row (w := W) (g := w.heap.size) fr.toArray) (Nat.le_refl _))
  clear hr2 hfin hlen2 hmin hlast hC hrl hfr
  go_wp2
  go_ret
  exact ⟨⟨_, rfl, by show Own _ _ _ _ _ (.slice (some ⟨w.heap.size, 0, none⟩) (n + 1) G) _; rw [HN.out]; exact HO.out⟩, ext_row HEX.out _⟩
/-- **slices.Insert of one sale.** -/
theorem insert_any (l : List Sale) (x : Sale) (i vb : Nat) (v : Value) (base : Nat) (w : World) (hi : i ≤ l.length) (hl : l.length ≤ 1000) (ho : Own encL 68 5 w base v l) (hb : base ≤ w.heap.size)
    (hx : Blk w vb 68 #[.int .i64 x.number, .int .i64 x.seller, .int .i64 x.buyer, .int .i64 x.bales, .int .i64 x.price]) :
    Calls Tryd.prog 119 #[v, .int .i64 (i : Int), .slice (some ⟨vb, 0, none⟩) 1 1] w (InsP l x i base v w) := by
  by_cases he : i = l.length
  · subst he
    exact ins_end l x vb v base w hl ho hb hx
  · rcases own_form ho with ⟨rfl, rfl⟩ | ⟨g, cap, cur, rfl, hg, hh, hlc, hcm, hs, ht⟩
    · simp at hi; simp at he; omega
    · by_cases hroom : l.length + 1 ≤ cap
      · exact ins_shift l x i vb g l.length cap base w cur (by omega) rfl hl hroom hcm hg hh hs ht (by
          rintro rfl
          unfold Blk at hx
          rw [hh] at hx
          injection hx with hx
          injection hx with hx _ _
          rw [hx] at hs
          simp at hs
          omega) hx
      · exact ins_grow l x i vb g l.length cap base w cur (by omega) rfl hl hlc (by omega) hb hh ht hx
end Go.Proofs.YtafdbgielmlihaaDoor
/- chain.with and chain.less: a chain with a sale more, without some. -/
namespace Go.Proofs.YtafdbgielmlihaaDoor
open Go.RowKit Go.Shelf Go.Lib
set_option maxRecDepth 100000
set_option linter.unusedSimpArgs false

theorem pos_lo : ∀ {l : List Sale} {n : Int} (k : Nat) (x : Sale), k < posL l n → l[k]? = some x → x.number < n
  | [], n, k, x, h, hx => by simp at hx
  | y :: l, n, k, x, h, hx => by
    unfold posL at h
    rw [List.takeWhile_cons] at h
    split at h
    · rename_i hy
      cases k with
      | zero => simp at hx; subst hx; simpa using hy
      | succ k => exact pos_lo k x (by unfold posL; simpa using h) (by simpa using hx)
    · simp at h
theorem pos_hi : ∀ {l : List Sale} {n : Int} (k : Nat) (x : Sale), (l.map (·.number)).Pairwise (· < ·) → posL l n ≤ k → l[k]? = some x → n ≤ x.number
  | [], n, k, x, _, h, hx => by simp at hx
  | y :: l, n, k, x, hp, h, hx => by
    rw [List.map_cons, List.pairwise_cons] at hp
    unfold posL at h
    rw [List.takeWhile_cons] at h
    split at h
    · cases k with
      | zero => simp at h
      | succ k => exact pos_hi k x hp.2 (by unfold posL; simpa using h) (by simpa using hx)
    · rename_i hy
      have hy' : n ≤ y.number := by simpa using hy
      cases k with
      | zero => simp at hx; subst hx; exact hy'
      | succ k =>
        have hm : x ∈ l := List.mem_of_getElem? (by simpa using hx)
        have := hp.1 x.number (List.mem_map.2 ⟨x, hm, rfl⟩)
        omega
theorem cmpI_neg {a b : Int} : cmpI a b < 0 ↔ a < b := by unfold cmpI; split <;> (try split) <;> omega

/-- A slice of one fresh sale. -/
def OneL (x : Sale) (v : Value) (W : World) : Prop := ∃ vb, v = .slice (some ⟨vb, 0, none⟩) 1 1 ∧ Blk W vb 68 #[.int .i64 x.number, .int .i64 x.seller, .int .i64 x.buyer, .int .i64 x.bales, .int .i64 x.price]
theorem OneL.ext {x : Sale} {v : Value} {W W' : World} (h : OneL x v W) (e : Ext W W') : OneL x v W' := by obtain ⟨vb, h1, h2⟩ := h; exact ⟨vb, h1, h2.ext e⟩
set_option maxHeartbeats 4000000 in
theorem with_any (c : Chn) (x : Sale) (hv sv : Value) (w : World) (hh : SlI w hv c.houses) (hs : SlL w sv c.sales) (hlh : c.houses.length ≤ 1000) (hls : c.sales.length ≤ 900) (hr : (c.sales.map (·.number)).Pairwise (· < ·)) :
    Calls Tryd.prog 100 #[valC hv sv, valL x] w fun e w' => (∃ v, e = .returned v ∧ TwinC (withC c x) w.heap.size v w') ∧ Ext w w' := by
  have HH := Lib.hid hh; have HS := Lib.hid hs; have HL := Lib.hid hls; have HLH := Lib.hid hlh
  have HP := Lib.hid hr
  obtain ⟨A, n, cp, rfl, hn, hlc, hcm⟩ := hh.form
  obtain ⟨A2, n2, cp2, rfl, hn2, hlc2, hcm2⟩ := hs.form
  clear hh hs hlh hls hr
  dsimp only [valL]
  go_enter Tryd.func100, Tryd.ntmps100
  go_wp2_with fail
  generalize hw3 : ((w.alloc (.cells #[.slice A n cp, .slice A2 n2 cp2] 25)).alloc (.cells #[.int .i64 x.number, .int .i64 x.seller, .int .i64 x.buyer, .int .i64 x.bales, .int .i64 x.price] 68)).alloc (.cells #[.slice none 0 0, .slice none 0 0] 25) = w3
  have HE3 := Lib.hid (show Ext w w3 from hw3 ▸ ((Ext.al _ _).alloc _).alloc _)
  have HZ3 := Lib.hid (show w3.heap.size = w.heap.size + 3 by rw [← hw3]; simp)
  have HB0 := Lib.hid (show Blk w3 w.heap.size 25 #[.slice A n cp, .slice A2 n2 cp2] from hw3 ▸ ((Blk.new _ _ _).alloc _).alloc _)
  have HB1 := Lib.hid (show Blk w3 (w.heap.size + 1) 68 #[.int .i64 x.number, .int .i64 x.seller, .int .i64 x.buyer, .int .i64 x.bales, .int .i64 x.price] from hw3 ▸ (Blk.at_ (by simp)).alloc _)
  have HB2 := Lib.hid (show Blk w3 (w.heap.size + 1 + 1) 25 #[.slice none 0 0, .slice none 0 0] from hw3 ▸ Blk.at_ (by simp))
  clear hw3
  refine (bin_any 118 (enters_of Tryd.func118 (by kernel_rfl) rfl) (fun y => cmpI y.number x.number) x.number c.sales _ (posL c.sales x.number) _ (HS.out.ext HE3.out) (by have := HL.out; omega) (posL_le _ _) (fun k y h1 h2 => cmpI_neg.2 (pos_lo k y h1 h2)) (fun k y h1 h2 => by
    have := pos_hi k y HP.out h1 h2
    have h3 : ¬ cmpI y.number x.number < 0 := by rw [cmpI_neg]; omega
    show 0 ≤ cmpI y.number x.number
    omega) (fun W y hW => f118_any y x.number W)).mono ?_
  rintro e w4 ⟨⟨bb, rfl⟩, hE⟩
  have HE4 := Lib.hid (HE3.out.trans hE)
  have HC0 := Lib.hid (HB0.out.ext hE); have HC1 := Lib.hid (HB1.out.ext hE); have HC2 := Lib.hid (HB2.out.ext hE)
  have HZ4 := Lib.hid (show w.heap.size + 3 ≤ w4.heap.size by have := hE.size; have := HZ3.out; omega)
  clear hE HB0 HB1 HB2 HZ3 HE3
  have hp := posL_le c.sales x.number
  have HPL := Lib.hid hp
  generalize hpe : posL c.sales x.number = p at *
  have HPE := Lib.hid hpe
  clear hpe hp
  have m0 := fun W (h : Ext w4 W) => (HC0.out.ext h).c2.1
  have m1 := fun W (h : Ext w4 W) => (HC0.out.ext h).c2.2.1
  have d0 := fun W (h : Ext w4 W) => (HC1.out.ext h).c5.1
  have d1 := fun W (h : Ext w4 W) => (HC1.out.ext h).c5.2.1
  have d2 := fun W (h : Ext w4 W) => (HC1.out.ext h).c5.2.2.1
  have d3 := fun W (h : Ext w4 W) => (HC1.out.ext h).c5.2.2.2.1
  have d4 := fun W (h : Ext w4 W) => (HC1.out.ext h).c5.2.2.2.2.1
  go_wp2
  refine wp_region_tame_cutk (fun W => Ext w4 W) (fun W W' => Ext W W') (by kernel_rfl) 26 rfl 9 (by decide +kernel) (by decide +kernel) (by decide +kernel) (Ext.refl _).drew ?_
  simp only [List.take, List.drop]
  repeat (apply tame_q rfl; (intro ρ W hC hr hD; (obtain ⟨hrc, hrg, hrf, hrs⟩ := hr); (simp [go_sem] at hD); go_simp; first | exact ⟨⟨hC, Ext.refl _⟩, rfl⟩ | exact ⟨⟨hC, RS.refl _⟩, rfl⟩ | exact rfl); simp only [List.nil_append, List.cons_append])
  apply tame_v rfl (fun v W => Own encI 3 1 W (w.heap.size + 3) v c.houses) (fun v W W' _ hE h => h.ext hE)
  · intro ρ W hC hr hD
    obtain ⟨hrc, hrg, hrf, hrs⟩ := hr
    simp [go_sem] at hD
    go_simp
    refine (cloneI_any _ c.houses _ (HH.out.ext (HE4.out.trans hC)) HLH.out).mono ?_
    rintro e w' ⟨⟨v', rfl, ho⟩, hE⟩
    exact ⟨_, rfl, ⟨hC.trans hE, hE⟩, ho.mono (by have := hC.size; have := HZ4.out; omega)⟩
  simp only [List.nil_append, List.cons_append]
  repeat (apply tame_q rfl; (intro ρ W hC hr hD; (obtain ⟨hrc, hrg, hrf, hrs⟩ := hr); (simp [go_sem] at hD); go_simp; first | exact ⟨⟨hC, Ext.refl _⟩, rfl⟩ | exact ⟨⟨hC, RS.refl _⟩, rfl⟩ | exact rfl); simp only [List.nil_append, List.cons_append])
  apply tame_v rfl (fun v W => Own encL 68 5 W (w.heap.size + 3) v c.sales) (fun v W W' _ hE h => h.ext hE)
  · intro ρ W hC hr hD
    obtain ⟨hrc, hrg, hrf, hrs⟩ := hr
    simp [go_sem] at hD
    go_simp
    refine (cloneL_any _ c.sales _ (HS.out.ext (HE4.out.trans hC)) (by have := HL.out; omega)).mono ?_
    rintro e w' ⟨⟨v', rfl, ho⟩, hE⟩
    exact ⟨_, rfl, ⟨hC.trans hE, hE⟩, ho.mono (by have := hC.size; have := HZ4.out; omega)⟩
  simp only [List.nil_append, List.cons_append]
  repeat (apply tame_q rfl; (intro ρ W hC hr hD; (obtain ⟨hrc, hrg, hrf, hrs⟩ := hr); (simp [go_sem] at hD); go_simp; first | exact ⟨⟨hC, Ext.refl _⟩, rfl⟩ | exact ⟨⟨hC, RS.refl _⟩, rfl⟩ | exact rfl); simp only [List.nil_append, List.cons_append])
  apply tame_v rfl (OneL x) (fun v W W' _ hE h => h.ext hE)
  · intro ρ W hC hr hD
    obtain ⟨hrc, hrg, hrf, hrs⟩ := hr
    simp [go_sem] at hD
    go_simp
    exact ⟨⟨hC.alloc _, Ext.al _ _⟩, ⟨_, rfl, Blk.new _ _ _⟩⟩
  simp only [List.nil_append, List.cons_append]
  refine tame_end 26 rfl rfl (fun ρ W hC hr hF => ?_)
  obtain ⟨hrc, hrg, hrf, hrs⟩ := hr
  simp [go_sem] at hF
  obtain ⟨f15, f16, f17, f18, f19, f20, f21, f22, vb, f23, hBx⟩ := hF
  obtain ⟨Ad, nd, cd, e17, -, -, -⟩ := (show SlI W (ρ (.tmp 17)) c.houses from f17.sl (fun _ => rfl)).form
  obtain ⟨Aw, nw, cw, e20, -, -, -⟩ := (show SlL W (ρ (.tmp 20)) c.sales from f20.sl (fun _ => rfl)).form
  rw [e17] at f17
  rw [e20] at f20
  apply frame_to
  · go_simp
    exact rfl
  have O1 := Lib.hid f17; have O2 := Lib.hid f20; have HBX := Lib.hid hBx
  have HEW := Lib.hid (HE4.out.trans hC)
  have HBW := Lib.hid (HC2.out.ext hC)
  have HZW := Lib.hid (show w.heap.size + 3 ≤ W.heap.size by have := hC.size; have := HZ4.out; omega)
  clear f15 f16 f17 f18 f19 f20 f21 f22 f23 e17 e20 hBx hC hrc hrg hrf hrs m0 m1 d0 d1 d2 d3 d4 HC0 HC1 HC2
  go_wp2_with fail
  refine (insert_any c.sales x p vb _ (w.heap.size + 3) W HPL.out (by have := HL.out; omega) O2.out HZW.out HBX.out).mono ?_
  rintro e w5 ⟨⟨v', rfl, ho⟩, hg⟩
  have O3 := Lib.hid (own_apart O1.out O2.out (by decide) hg)
  obtain ⟨Ai, ni, ci, rfl, -, -, -⟩ := (show SlL w5 v' _ from ho.sl (fun _ => rfl)).form
  have O4 := Lib.hid (show Own encL 68 5 w5 (w.heap.size + 3) (.slice Ai ni ci) (withC c x).sales from by unfold withC; rw [HPE.out]; exact ho)
  have HBL := Lib.hid (own_below O2.out HZW.out hg)
  have HB5 := Lib.hid (HBW.out.below HBL.out (by omega))
  have HE5 := Lib.hid (show Ext w w5 from Below.trans HEW.out (HBL.out.mono (by omega)))
  clear hg ho HEW HBW HBX O1 O2 HBL
  have t0 := HB5.out.c2
  go_wp2
  refine ret_set2 HB5.out fun W' ⟨b0, b1⟩ hW => ?_
  refine bodyPost_ret (v := valC (.slice Ad nd cd) (.slice Ai ni ci)) (by simp [results, Tryd.results100, go_sem, b0, b1]) rfl ?_
  exact ⟨⟨_, rfl, ⟨_, _, rfl, own_mono (own_kept O3.out hW (by omega)) (by omega), own_mono (own_kept O4.out hW (by omega)) (by omega)⟩⟩, ext_grownP HE5.out hW (by omega)⟩

set_option maxHeartbeats 4000000 in
theorem less_any (c : Chn) (p : Sale → Bool) (tf : FuncId) (tlb : Array Value) (et : ∀ args w, (callFunc tf args).run Tryd.prog w = .ok (.enter tf args) w) (hv sv : Value) (w : World) (hh : SlI w hv c.houses) (hs : SlL w sv c.sales) (hlh : c.houses.length ≤ 1000) (hls : c.sales.length ≤ 1000)
    (hp : ∀ W y, Ext w W → Calls Tryd.prog tf (#[valL y] ++ tlb) W fun e W' => e = .returned (.bool (p y)) ∧ Ext W W') :
    Calls Tryd.prog 102 #[valC hv sv, .func (.func tf) #[] tlb] w fun e w' => (∃ v, e = .returned v ∧ TwinC (lessC c p) w.heap.size v w') ∧ Ext w w' := by
  have HH := Lib.hid hh; have HS := Lib.hid hs; have HL := Lib.hid hls; have HLH := Lib.hid hlh
  have HP := Lib.hid hp
  obtain ⟨A, n, cp, rfl, hn, hlc, hcm⟩ := hh.form
  obtain ⟨A2, n2, cp2, rfl, hn2, hlc2, hcm2⟩ := hs.form
  clear hh hs hlh hls hp
  go_enter Tryd.func102, Tryd.ntmps102
  go_wp2
  generalize hw4 : ((w.alloc (.cells #[.slice A n cp, .slice A2 n2 cp2] 25)).alloc (.cells #[.slice none 0 0, .slice none 0 0] 25)) = w4
  have HE4 := Lib.hid (show Ext w w4 from hw4 ▸ (Ext.al _ _).alloc _)
  have HZ4 := Lib.hid (show w4.heap.size = w.heap.size + 2 by rw [← hw4]; simp)
  have HC0 := Lib.hid (show Blk w4 w.heap.size 25 #[.slice A n cp, .slice A2 n2 cp2] from hw4 ▸ (Blk.new _ _ _).alloc _)
  have HC2 := Lib.hid (show Blk w4 (w.heap.size + 1) 25 #[.slice none 0 0, .slice none 0 0] from hw4 ▸ Blk.at_ (by simp))
  clear hw4
  have m0 := fun W (h : Ext w4 W) => (HC0.out.ext h).c2.1
  have m1 := fun W (h : Ext w4 W) => (HC0.out.ext h).c2.2.1
  refine wp_region_tame_cutk (fun W => Ext w4 W) (fun W W' => Ext W W') (by kernel_rfl) 14 rfl 7 (by decide +kernel) (by decide +kernel) (by decide +kernel) (Ext.refl _).drew ?_
  simp only [List.take, List.drop]
  repeat (apply tame_q rfl; (intro ρ W hC hr hD; (obtain ⟨hrc, hrg, hrf, hrs⟩ := hr); (simp [go_sem] at hD); go_simp; first | exact ⟨⟨hC, Ext.refl _⟩, rfl⟩ | exact ⟨⟨hC, RS.refl _⟩, rfl⟩ | exact rfl); simp only [List.nil_append, List.cons_append])
  apply tame_v rfl (fun v W => Own encI 3 1 W (w.heap.size + 2) v c.houses) (fun v W W' _ hE h => h.ext hE)
  · intro ρ W hC hr hD
    obtain ⟨hrc, hrg, hrf, hrs⟩ := hr
    simp [go_sem] at hD
    go_simp
    refine (cloneI_any _ c.houses _ (HH.out.ext (HE4.out.trans hC)) HLH.out).mono ?_
    rintro e w' ⟨⟨v', rfl, ho⟩, hE⟩
    exact ⟨_, rfl, ⟨hC.trans hE, hE⟩, ho.mono (by have := hC.size; have := HZ4.out; omega)⟩
  simp only [List.nil_append, List.cons_append]
  repeat (apply tame_q rfl; (intro ρ W hC hr hD; (obtain ⟨hrc, hrg, hrf, hrs⟩ := hr); (simp [go_sem] at hD); go_simp; first | exact ⟨⟨hC, Ext.refl _⟩, rfl⟩ | exact ⟨⟨hC, RS.refl _⟩, rfl⟩ | exact rfl); simp only [List.nil_append, List.cons_append])
  apply tame_v rfl (fun v W => Own encL 68 5 W (w.heap.size + 2) v c.sales) (fun v W W' _ hE h => h.ext hE)
  · intro ρ W hC hr hD
    obtain ⟨hrc, hrg, hrf, hrs⟩ := hr
    simp [go_sem] at hD
    go_simp
    refine (cloneL_any _ c.sales _ (HS.out.ext (HE4.out.trans hC)) HL.out).mono ?_
    rintro e w' ⟨⟨v', rfl, ho⟩, hE⟩
    exact ⟨_, rfl, ⟨hC.trans hE, hE⟩, ho.mono (by have := hC.size; have := HZ4.out; omega)⟩
  simp only [List.nil_append, List.cons_append]
  repeat (apply tame_q rfl; (intro ρ W hC hr hD; (obtain ⟨hrc, hrg, hrf, hrs⟩ := hr); (simp [go_sem] at hD); go_simp; first | exact ⟨⟨hC, Ext.refl _⟩, rfl⟩ | exact ⟨⟨hC, RS.refl _⟩, rfl⟩ | exact rfl); simp only [List.nil_append, List.cons_append])
  refine tame_end 14 rfl rfl (fun ρ W hC hr hF => ?_)
  obtain ⟨hrc, hrg, hrf, hrs⟩ := hr
  simp [go_sem] at hF
  obtain ⟨f15, f16, f17, f18, f19, f20, f21⟩ := hF
  obtain ⟨Ad, nd, cd, e17, -, -, -⟩ := (show SlI W (ρ (.tmp 7)) c.houses from f17.sl (fun _ => rfl)).form
  obtain ⟨Aw, nw, cw, e20, -, -, -⟩ := (show SlL W (ρ (.tmp 10)) c.sales from f20.sl (fun _ => rfl)).form
  rw [e17] at f17
  rw [e20] at f20
  apply frame_to
  · go_simp
    exact rfl
  have O1 := Lib.hid f17; have O2 := Lib.hid f20
  have HEW := Lib.hid (HE4.out.trans hC)
  have HBW := Lib.hid (HC2.out.ext hC)
  have HZW := Lib.hid (show w.heap.size + 2 ≤ W.heap.size by have := hC.size; have := HZ4.out; omega)
  clear f15 f16 f17 f18 f19 f20 f21 e17 e20 hC hrc hrg hrf hrs m0 m1 HC0 HC2
  go_wp2_with fail
  refine (del_any tf tlb et p c.sales _ (w.heap.size + 2) W HZW.out O2.out (fun W' y hW => HP.out W' y (Below.trans HEW.out (hW.mono (by omega))))).mono ?_
  rintro e w5 ⟨v', rfl, ho, hg⟩
  have O3 := Lib.hid (own_apart O1.out O2.out (by decide) hg)
  obtain ⟨Ai, ni, ci, rfl, -, -, -⟩ := (show SlL w5 v' _ from ho.sl (fun _ => rfl)).form
  have O4 := Lib.hid (show Own encL 68 5 w5 (w.heap.size + 2) (.slice Ai ni ci) (lessC c p).sales from ho)
  have HBL := Lib.hid (own_below O2.out HZW.out hg)
  have HB5 := Lib.hid (HBW.out.below HBL.out (by omega))
  have HE5 := Lib.hid (show Ext w w5 from Below.trans HEW.out (HBL.out.mono (by omega)))
  clear hg ho HEW HBW O1 O2 HBL
  have t0 := HB5.out.c2
  go_wp2
  refine ret_set2 HB5.out fun W' ⟨b0, b1⟩ hW => ?_
  refine bodyPost_ret (v := valC (.slice Ad nd cd) (.slice Ai ni ci)) (by simp [results, Tryd.results102, go_sem, b0, b1]) rfl ?_
  exact ⟨⟨_, rfl, ⟨_, _, rfl, own_mono (own_kept O3.out hW (by omega)) (by omega), own_mono (own_kept O4.out hW (by omega)) (by omega)⟩⟩, ext_grownP HE5.out hW (by omega)⟩
end Go.Proofs.YtafdbgielmlihaaDoor
