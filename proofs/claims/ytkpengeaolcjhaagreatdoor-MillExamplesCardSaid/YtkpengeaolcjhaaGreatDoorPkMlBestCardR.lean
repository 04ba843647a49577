/- mill.each: the numbers of all lots' bales. -/
import Derived.Test.YtkpengeaolcjhaaGreatDoorPkMlBestCardQ
import Derived.Maps.AppendAt
import Derived.Test.YtkpengeaolcjhaaGreatDoorPkMlBestCardN
import Derived.ChangeKeysEq
import Derived.WalkMore
namespace Go.Proofs.YtkpengeaolcjhaaGreatDoor
open Go.RowKit Go.Shelf Go.Lib
set_option maxRecDepth 100000
set_option linter.unusedSimpArgs false

abbrev NewL (base : Nat) (l : List Int) (v : Value) (W : World) : Prop := NewF encI 1 3 base l v W
theorem NewL.ext {base : Nat} {l : List Int} {v : Value} {W W' : World} (h : NewL base l v W) (e : Ext W W') : NewL base l v W' := ⟨h.1.ext e, h.2⟩
theorem NewL.grown {base : Nat} {l : List Int} {v : Value} {W W' : World} {row : Option Nat} (h : NewL base l v W) (hg : W.grownBy W' row) (hne : v.ownBlock = none ∨ v.ownBlock ≠ row) : NewL base l v W' := by
  refine ⟨⟨h.1.1, ?_⟩, h.2⟩
  rcases h.1.2 with h2 | ⟨g, cap, cur, rfl, hb, hh, rest⟩
  · exact .inl h2
  · refine .inr ⟨g, cap, cur, rfl, hb, (hg.block g (Array.getElem?_eq_some_iff.1 hh).1 ?_).trans hh, rest⟩
    rcases hne with h3 | h3
    · simp [Value.ownBlock] at h3
    · simpa [Value.ownBlock] using h3
theorem NewL.off {base : Nat} {l : List Int} {v : Value} {W W' : World} (h : NewL base l v W) (k : OffX 36 W W') : NewL base l v W' := ⟨h.1.offX k (by decide), h.2⟩
theorem offX_set {W : World} {g i : Nat} {t : TypeId} {cs : Array Value} (h : Blk W g t cs) (u : Value) : OffX t W (W.setCell ⟨g, i, none⟩ u) := by
  intro b e' cs' hne hB
  exact hB.far (by
    rintro rfl
    unfold Blk at h hB
    rw [h] at hB
    injection hB with hB
    injection hB with _ e2 _
    exact hne e2.symm) u
/-- Lists of lists in memory of the call's own: the row of slices, and each of them. -/
structure LLs (base go : Nat) (vs : List Value) (L : List (List Int)) (W : World) : Prop where
  row : Blk W go 36 vs.toArray
  len : vs.length = L.length
  own : ∀ (i : Nat) (v : Value) (l : List Int), vs[i]? = some v → L[i]? = some l → NewL base l v W
  dis : ∀ (i j : Nat) (v v' : Value), i ≠ j → vs[i]? = some v → vs[j]? = some v' → v.ownBlock = none ∨ v.ownBlock ≠ v'.ownBlock
theorem LLs.ext {base go : Nat} {vs : List Value} {L : List (List Int)} {W W' : World} (h : LLs base go vs L W) (e : Ext W W') : LLs base go vs L W' := ⟨h.row.ext e, h.len, fun i v l h1 h2 => (h.own i v l h1 h2).ext e, h.dis⟩
theorem Ext.trans' {base : Nat} {w a b : World} (h : Ext w a) (k : Below base a b) (hb : w.heap.size ≤ base := by omega) : Ext w b := Below.trans h (k.mono hb)
/-- While a number is put to a lot's list. -/
structure EaC (base go : Nat) (vs : List Value) (L : List (List Int)) (wr W : World) : Prop where
  below : Below base wr W
  off : OffX 3 wr W
  own : ∀ (i : Nat) (v : Value) (l : List Int), vs[i]? = some v → L[i]? = some l → NewL base l v W
theorem EaC.ext {base go : Nat} {vs : List Value} {L : List (List Int)} {wr W W' : World} (h : EaC base go vs L wr W) (e : Ext W W') (hb : base ≤ W.heap.size) : EaC base go vs L wr W' :=
  ⟨h.below.trans (e.mono hb), fun b e' cs ne hB => (h.off b e' cs ne hB).ext e, fun i v l h1 h2 => (h.own i v l h1 h2).ext e⟩
def lotsTo (lt : Nat) (plan vals : List Int) (k : Nat) : List (List Int) := (List.range lt).map fun (i : Nat) => lotL (plan.take k) (vals.take k) ((i : Int) + 1)
theorem lotsTo_at {lt : Nat} {plan vals : List Int} {k i : Nat} (h : i < lt) : (lotsTo lt plan vals k)[i]? = some (lotL (plan.take k) (vals.take k) ((i : Int) + 1)) := by
  unfold lotsTo
  rw [List.getElem?_map, List.getElem?_range h]
  rfl
theorem lotsTo_len (lt : Nat) (plan vals : List Int) (k : Nat) : (lotsTo lt plan vals k).length = lt := by unfold lotsTo; simp
theorem lotsTo_full {lt : Nat} {plan vals : List Int} {k : Nat} (h1 : plan.length ≤ k) (h2 : vals.length ≤ k) : lotsTo lt plan vals k = lotsL lt plan vals := by
  unfold lotsTo lotsL
  rw [List.take_of_length_le h1, List.take_of_length_le h2]
  rfl
theorem lotsTo_skip {lt : Nat} {plan vals : List Int} {k : Nat} {a x : Int} (ha : plan[k]? = some a) (hx : vals[k]? = some x) (h : a = 0) : lotsTo lt plan vals (k + 1) = lotsTo lt plan vals k := by
  unfold lotsTo
  refine List.map_congr_left fun i _ => ?_
  have h1 := (List.getElem?_eq_some_iff.1 ha).1
  have h2 := (List.getElem?_eq_some_iff.1 hx).1
  rw [List.take_add_one, ha, List.take_add_one, hx]
  show lotL (plan.take k ++ [a]) (vals.take k ++ [x]) _ = _
  rw [lotL_snoc (by rw [List.length_take, List.length_take]; omega), if_neg (by omega), List.append_nil]
theorem lotsTo_put {lt : Nat} {plan vals : List Int} {k i : Nat} {a x : Int} (ha : plan[k]? = some a) (hx : vals[k]? = some x) (h : a = (i : Int) + 1) : lotsTo lt plan vals (k + 1) = (lotsTo lt plan vals k).set i (lotL (plan.take k) (vals.take k) ((i : Int) + 1) ++ [x]) := by
  have h1 := (List.getElem?_eq_some_iff.1 ha).1
  have h2 := (List.getElem?_eq_some_iff.1 hx).1
  apply List.ext_getElem?
  intro j
  rw [List.getElem?_set]
  by_cases hj : j < lt
  · rw [lotsTo_at hj, lotsTo_at hj, List.take_add_one, ha, List.take_add_one, hx]
    show some (lotL (plan.take k ++ [a]) (vals.take k ++ [x]) _) = _
    rw [lotL_snoc (by rw [List.length_take, List.length_take]; omega)]
    by_cases e : i = j
    · subst e
      rw [if_pos h, if_pos rfl, if_pos (by rw [lotsTo_len]; exact hj)]
    · rw [if_neg (by omega), if_neg e, List.append_nil]
  · rw [List.getElem?_eq_none (by rw [lotsTo_len]; omega), List.getElem?_eq_none (by rw [lotsTo_len]; omega)]
    split
    · rw [if_neg (by rw [lotsTo_len]; omega)]
    · rfl
theorem info36y : (Tryz.prog.info? 36).map (fun i => (i.zero, i.size, i.bytes)) = some (some (.slice none 0 0), 1, 24) := by kernel_rfl
theorem run_makeLL {n : Nat} (hn : n ≤ 1000) (w : World) : (Instr.makeSlice 72 (.int .i64 (n : Int)) (.int .i64 (n : Int))).run Tryz.prog w = .ok (.slice (some ⟨w.heap.size, 0, none⟩) n n) (w.alloc (.cells (Array.replicate n (Value.slice none 0 0)) 36)) := by
  obtain ⟨i0, hi, hz0, hz1, hz2⟩ := info_parts info36y
  have h := run_make (P := Tryz.prog) w 72 36 i0 (.slice none 0 0) Tryz.underlying72 hi hz0 .i64 .i64 (n : Int) (n : Int) (by omega) (Int.le_refl _) (by rw [hz2]; omega) (by omega)
  rw [h, hz1]
  have : madeCells (Value.slice none 0 0).cells ((n : Int).toNat * 1) = Array.replicate n (Value.slice none 0 0) := by
    apply Array.ext
    · simp [madeCells]
    · intro i h1 h2
      simp [madeCells, Value.cells, Nat.mod_one]
  rw [this]
  rfl
/-- A list with one number more; where it lies. -/
def PutL (base : Nat) (l : List Int) (v0 : Value) (wr : World) (v : Value) (W : World) : Prop := NewL base l v W ∧ (v.ownBlock = v0.ownBlock ∨ ∃ b, v.ownBlock = some b ∧ wr.heap.size ≤ b)
theorem LLs.put {base go : Nat} {vs : List Value} {L : List (List Int)} {wr W : World} (h : LLs base go vs L wr) (hC : EaC base go vs L wr W) {i : Nat} {vi v' : Value} {l' : List Int} (hvi : vs[i]? = some vi) (hp : PutL base l' vi wr v' W) : LLs base go (vs.set i v') (L.set i l') (W.setCell ⟨go, i, none⟩ v') := by
  have hrow := hC.off _ _ _ (by decide) h.row
  have hof := offX_set (i := i) hrow v'
  have hlt : ∀ (j : Nat) (v : Value), vs[j]? = some v → ∀ g, v.ownBlock = some g → g < wr.heap.size := fun j v hv => by
    obtain ⟨l, hl⟩ : ∃ l, L[j]? = some l := ⟨_, List.getElem?_eq_getElem (by have := (List.getElem?_eq_some_iff.1 hv).1; have := h.len; omega)⟩
    exact own_top (h.own j v l hv hl).1
  refine ⟨by have := hrow.set_ i v'; rwa [List.setIfInBounds_toArray] at this, by rw [List.length_set, List.length_set]; exact h.len, fun j v l h1 h2 => ?_, fun j k v w hne h1 h2 => ?_⟩
  · rw [List.getElem?_set] at h1 h2
    by_cases hj : i = j
    · rw [if_pos hj] at h1 h2
      split at h1
      · split at h2
        · injection h1 with h1; injection h2 with h2
          subst h1 h2
          exact hp.1.off hof
        · cases h2
      · cases h1
    · rw [if_neg hj] at h1 h2
      exact (hC.own j v l h1 h2).off hof
  · rw [List.getElem?_set] at h1 h2
    by_cases hj : i = j
    · rw [if_pos hj] at h1
      rw [if_neg (by omega)] at h2
      split at h1
      · injection h1 with h1
        subst h1
        rcases hp.2 with e | ⟨b, e, hb⟩
        · rw [e]; exact h.dis i k vi w (by omega) hvi h2
        · rw [e]; refine .inr fun e2 => ?_
          have := hlt k w h2 b e2.symm
          omega
      · cases h1
    · rw [if_neg hj] at h1
      by_cases hk : i = k
      · rw [if_pos hk] at h2
        split at h2
        · injection h2 with h2
          subst h2
          rcases hp.2 with e | ⟨b, e, hb⟩
          · rw [e]; exact h.dis j i v vi (by omega) h1 hvi
          · rw [e]
            cases hv : v.ownBlock with
            | none => exact .inl rfl
            | some g =>
              refine .inr fun e2 => ?_
              injection e2 with e2
              have := hlt j v h1 g hv
              omega
        · cases h2
      · rw [if_neg hk] at h2
        exact h.dis j k v w hne h1 h2
theorem LLs.mono {base base' go : Nat} {vs : List Value} {L : List (List Int)} {W : World} (h : LLs base go vs L W) (hb : base' ≤ base) : LLs base' go vs L W := ⟨h.row, h.len, fun i v l h1 h2 => ⟨(h.own i v l h1 h2).1.mono hb, (h.own i v l h1 h2).2⟩, h.dis⟩
theorem run_putL {W : World} {base : Nat} {v x : Value} {l : List Int} {y : Int} {ty : TypeId} (hv : NewL base l v W) (hF : l.length < 1000) (hb : base ≤ W.heap.size) (hx : OneF encI 3 y x W) :
    ∃ v' W', (Builtin.append_ #[36, 36] ty #[v, x]).run Tryz.prog W = .ok v' W' ∧ NewL base (l ++ [y]) v' W' ∧ RF encI 1 3 base (l ++ [y]) y W W' ∧ Below base W W' ∧ OffX 3 W W' ∧ W.grownBy W' v.ownBlock ∧ (v'.ownBlock = v.ownBlock ∨ v'.ownBlock = some W.heap.size) := by
  obtain ⟨v', W', hr, k1, k2, k3, k4⟩ := run_appO (t := 36) (ty := ty) (enc := encI) (sz := 1) Tryz.underlying36 info3x rfl (by decide) (by decide) (fun _ => rfl) encI_one hv hF hb hx
  obtain ⟨b, rfl, hB⟩ := hx
  obtain ⟨i0, hi, hz0, hz1, hz2⟩ := info_parts info3x
  have hs : SlI W (.slice (some ⟨b, 0, none⟩) 1 1) [y] := Sl.single (enc := encI) (sz := 1) (x := y) hB (Nat.le_refl _) (by decide)
  obtain ⟨v2, W2, hr2, -, h2, -, h4⟩ := run_append_own_at (P := Tryz.prog) W base 36 ty 3 i0 (.int .i64 0) 1 8 Tryz.underlying36 hi hz0 hz1 hz2 rfl (by decide) v l.length (l.flatMap encI) hv.1 ⟨b, 0, none⟩ 1 1 ([y].flatMap encI) (by simp) (Sl.flat (enc := encI) (fun _ => rfl) Nat.one_pos hs) (fun u hu => by
    obtain ⟨q, _, hq⟩ := List.mem_flatMap.1 hu
    exact encI_one q u hq) (by unfold maxLen; omega) (by omega) hb
  rw [hr] at hr2
  injection hr2 with e1 e2
  subst e1 e2
  exact ⟨v', W', hr, k1, k2, k3, k4, h2, h4⟩
abbrev valTO (lots size : Int) (sv : Value) (o : Option Nat) : Value := .agg #[.int .i64 lots, .int .i64 size, sv, .map o]
set_option maxHeartbeats 4000000 in
theorem each_any (lt : Nat) (size : Int) (l : List Rc) (plan : List Int) (sv pv : Value) (o : Option Nat) (num : Rc → Int) (gf : FuncId) (lb : Array Value) (eg : ∀ args w, (callFunc gf args).run Tryz.prog w = .ok (.enter gf args) w) (w : World)
    (hnum : ∀ W r, r ∈ l → Ext w W → Calls Tryz.prog gf (#[valC r] ++ lb) W fun e W' => e = .returned (.int .i64 (num r)) ∧ Ext W W')
    (hs : SlC w sv l) (hp : SlI w pv plan) (hpl : plan.length = l.length) (hr : ∀ x ∈ plan, 0 ≤ x ∧ x ≤ lt) (h3 : lt ≤ 3) (hlen : l.length ≤ 1000) :
    Calls Tryz.prog 76 #[valTO (lt : Int) size sv o, pv, .func (.func gf) #[] lb] w fun e w' => (∃ go vs, e = .returned (.slice (some ⟨go, 0, none⟩) lt lt) ∧ w.heap.size ≤ go ∧ LLs w.heap.size go vs (lotsL lt plan (l.map num)) w') ∧ Ext w w' := by
  have HS := Lib.hid hs; have HP := Lib.hid hp; have HNU := Lib.hid hnum; have HR := Lib.hid hr
  obtain ⟨A, n, c, rfl, hn, hlc, hcm⟩ := hs.form
  obtain ⟨Ap, np, cp, rfl, hnp, hlp, hcp⟩ := hp.form
  obtain rfl : np = n := by have := hn.out; have := hnp.out; omega
  have HL := Lib.hid (show l.length = np from hn.out.symm)
  have HPL := Lib.hid (show plan.length = np from hnp.out.symm)
  have hnb : np ≤ 1000 := by have := hn.out; omega
  have rm := fun w => run_makeLL (n := lt) (by omega) w
  clear hs hp hnum hr hn hnp hpl hlen
  go_enter Tryz.func76, Tryz.ntmps76
  go_wp2
  obtain ⟨w4, hw4⟩ : ∃ w4, w4 = (w.alloc (.cells #[.int .i64 (lt : Int), .int .i64 size, .slice A np c, .map o] 95)).alloc (.cells (Array.replicate lt (Value.slice none 0 0)) 36) := ⟨_, rfl⟩
  rw [← hw4]
  have B0 := Lib.hid (show Blk w4 w.heap.size 95 #[.int .i64 (lt : Int), .int .i64 size, .slice A np c, .map o] from hw4 ▸ (Blk.new _ _ _).alloc _)
  have HLL := Lib.hid (show LLs (w.heap.size + 1) (w.heap.size + 1) (List.replicate lt (Value.slice none 0 0)) (lotsTo lt plan (l.map num) 0) w4 from ⟨by rw [List.toArray_replicate, hw4]; exact Blk.at_ (by simp), by rw [lotsTo_len]; simp, fun i v li h1 h2 => by
      have hi := (List.getElem?_eq_some_iff.1 h1).1
      rw [List.length_replicate] at hi
      rw [List.getElem?_replicate, if_pos hi] at h1
      rw [lotsTo_at hi] at h2
      injection h1 with h1
      injection h2 with h2
      subst h1 h2
      exact ⟨Own.nil _ _, _, _, rfl, fun _ => rfl⟩, fun i j v v' hne h1 h2 => by
      have hi := (List.getElem?_eq_some_iff.1 h1).1
      rw [List.length_replicate] at hi
      rw [List.getElem?_replicate, if_pos hi] at h1
      injection h1 with h1
      subst h1
      exact .inl rfl⟩)
  have E4 := Lib.hid (show Below (w.heap.size + 1) w4 w4 from Below.refl _ _)
  have E0 := Lib.hid (show Ext w w4 from hw4 ▸ (Ext.al _ _).alloc _)
  have HZ4 := Lib.hid (show w4.heap.size = w.heap.size + 2 by rw [hw4]; simp)
  clear hw4 rm
  go_loopg [16] np (fun gg s16 wr => ∃ (k : Nat) (vs : List Value), s16 = .int .i64 (k : Int) ∧ k ≤ np ∧ np - k ≤ gg ∧ Aside (LLs (w.heap.size + 1) (w.heap.size + 1) vs (lotsTo lt plan (l.map num) k) wr) ∧ Aside (Below (w.heap.size + 1) w4 wr))
  case atStart => exact ⟨0, _, by simp, by omega, by omega, HLL.out, E4.out⟩
  case round =>
    obtain ⟨k, vs, rfl, hk, hgg, HLQ, HBQ⟩ := hrel
    clear HLL E4
    have HEQ := Lib.hid (show Ext w wr from Below.trans E0.out (HBQ.out.mono (Nat.le_succ _)))
    by_cases hkn : k < np
    · have hkz : (k : Int) < (np : Int) := by omega
      obtain ⟨b, off, x, rfl, hx, hb, hcell⟩ := HS.out.at_ hkn
      obtain ⟨bp, offp, a, rfl, ha, hbp, hcellp⟩ := HP.out.at_ hkn
      have q0 := SlI.cell hcellp HEQ.out
      have har := HR.out a (List.mem_of_getElem? ha)
      have hxn : (l.map num)[k]? = some (num x) := by rw [List.getElem?_map, hx]; rfl
      have HXM := Lib.hid (List.mem_of_getElem? hx)
      by_cases ha0 : a = 0
      · have HSK := Lib.hid (lotsTo_skip (lt := lt) ha hxn ha0)
        subst ha0
        clear hx ha hcell hcellp hxn
        go_wp2
        go_roundg (np - (k + 1))
        case measure => omega
        case rel => exact ⟨k + 1, vs, by simp, by omega, by omega, by rw [HSK.out]; exact HLQ.out, HBQ.out⟩
      · obtain ⟨i, hi⟩ : ∃ i : Nat, a = (i : Int) + 1 := ⟨(a - 1).toNat, by omega⟩
        have HPT := Lib.hid (lotsTo_put (lt := lt) ha hxn hi)
        subst hi
        have hil : i < lt := by omega
        have hiz : (i : Int) < (lt : Int) := by omega
        have hwi : IntKind.i64.wrap (i : Int) = (i : Int) := by rw [IntKind.wrap_i64]; omega
        have hpos : (0 : Int) < (i : Int) + 1 := by omega
        obtain ⟨vi, hvi⟩ : ∃ v, vs[i]? = some v := ⟨_, List.getElem?_eq_getElem (by rw [HLQ.out.len, lotsTo_len]; exact hil)⟩
        have hli := lotsTo_at (plan := plan) (vals := l.map num) (k := k) hil
        generalize lotL (plan.take k) ((l.map num).take k) ((i : Int) + 1) = li at *
        have hni := HLQ.out.own i vi li hvi hli
        have HLB := Lib.hid (show li.length < 1000 by
          have h1 := congrArg List.length (Option.some.inj ((lotsTo_at (plan := plan) (vals := l.map num) (k := k) hil).symm.trans hli))
          rw [← h1]
          have h2 : (lotL (plan.take k) ((l.map num).take k) ((i : Int) + 1)).length ≤ ((plan.take k).zip ((l.map num).take k)).length := by unfold lotL; rw [List.length_map]; exact List.length_filter_le _ _
          rw [List.length_zip, List.length_take, List.length_take] at h2
          omega)
        obtain ⟨Ai, ni, ci, rfl, -, -, -⟩ := (show SlI wr vi li from hni.1.sl (fun _ => rfl)).form
        have HVI := Lib.hid hvi; have HLI := Lib.hid hli; have HXN := Lib.hid hx; have HAN := Lib.hid ha
        have HC0 := Lib.hid (show EaC (w.heap.size + 1) (w.heap.size + 1) vs (lotsTo lt plan (l.map num) k) wr wr from ⟨Below.refl _ _, fun _ _ _ _ h => h, HLQ.out.own⟩)
        have hbs : w.heap.size + 1 ≤ wr.heap.size := by have := HBQ.out.size; have := HZ4.out; omega
        have HBX := Lib.hid (show Blk wr w.heap.size 95 #[.int .i64 (lt : Int), .int .i64 size, .slice (some ⟨b, off, none⟩) np c, .map o] from B0.out.below HBQ.out (by omega))
        obtain ⟨bx0, bx1, bx2, bx3, -, bxl⟩ := HBX.out.c4
        have q1 := fun W (h : EaC (w.heap.size + 1) (w.heap.size + 1) vs (lotsTo lt plan (l.map num) k) wr W) => ((HBX.out.below h.below (Nat.lt_succ_self _)).c4).2.2.1
        have q2 := fun W (h : EaC (w.heap.size + 1) (w.heap.size + 1) vs (lotsTo lt plan (l.map num) k) wr W) => (show W.cell? ⟨w.heap.size + 1, i, none⟩ = some (.slice Ai ni ci) by
          rw [(h.off _ _ _ (by decide) HLQ.out.row).cell i]; simpa using HVI.out)
        have q3 := fun W (h : EaC (w.heap.size + 1) (w.heap.size + 1) vs (lotsTo lt plan (l.map num) k) wr W) => SlC.cells hcell (HEQ.out.trans' h.below)
        have q4 := fun W (h : EaC (w.heap.size + 1) (w.heap.size + 1) vs (lotsTo lt plan (l.map num) k) wr W) => (q3 W h).1
        have q5 := fun W (h : EaC (w.heap.size + 1) (w.heap.size + 1) vs (lotsTo lt plan (l.map num) k) wr W) => (q3 W h).2.1
        have q6 := fun W (h : EaC (w.heap.size + 1) (w.heap.size + 1) vs (lotsTo lt plan (l.map num) k) wr W) => (q3 W h).2.2.1
        have q7 := fun W (h : EaC (w.heap.size + 1) (w.heap.size + 1) vs (lotsTo lt plan (l.map num) k) wr W) => (q3 W h).2.2.2.1
        have q8 := fun W (h : EaC (w.heap.size + 1) (w.heap.size + 1) vs (lotsTo lt plan (l.map num) k) wr W) => (q3 W h).2.2.2.2.1
        have q9 := fun W (h : EaC (w.heap.size + 1) (w.heap.size + 1) vs (lotsTo lt plan (l.map num) k) wr W) => (q3 W h).2.2.2.2.2.1
        have q10 := fun W (h : EaC (w.heap.size + 1) (w.heap.size + 1) vs (lotsTo lt plan (l.map num) k) wr W) => (q3 W h).2.2.2.2.2.2.1
        have q11 := fun W (h : EaC (w.heap.size + 1) (w.heap.size + 1) vs (lotsTo lt plan (l.map num) k) wr W) => (q3 W h).2.2.2.2.2.2.2
        have HDS := Lib.hid HLQ.out.dis
        clear hx ha hcell hcellp hxn hvi hli hni q3 har
        go_wp2_with fail
        refine wp_region_tame_cut (fun W => EaC (w.heap.size + 1) (w.heap.size + 1) vs (lotsTo lt plan (l.map num) k) wr W) (fun W W' => RF encI 1 3 (w.heap.size + 1) (li ++ [num x]) (num x) W W') (by kernel_rfl) 44 rfl _ rfl (by decide +kernel) (by decide +kernel) (by decide +kernel) rfl (HC0.out.ext (Ext.refl _).drew hbs) ?_
        simp only [List.dropLast]
        repeat (apply tame_q rfl; (intro ρ W hC hr hD; (obtain ⟨hrc, hrg, hrf, hrs⟩ := hr); (simp [go_sem] at hD); go_simp; first | exact ⟨⟨hC, RF.refl _⟩, rfl⟩ | exact rfl); simp only [List.nil_append, List.cons_append])
        apply tame_q rfl
        · intro ρ W hC hr hD
          obtain ⟨hrc, hrg, hrf, hrs⟩ := hr
          simp [go_sem] at hD
          have HCC := Lib.hid hC
          go_simp
          go_at_fn gf
          refine (HNU.out W x HXM.out (HEQ.out.trans' HCC.out.below)).mono ?_
          rintro e w' ⟨rfl, hE⟩
          exact ⟨_, rfl, ⟨HCC.out.ext hE (Nat.le_trans hbs HCC.out.below.size), RF.ext hE⟩, rfl⟩
        simp only [List.nil_append, List.cons_append]
        apply tame_v rfl (OneF encI 3 (num x)) (fun v W W' _ hR h => by obtain ⟨b2, h1, h2⟩ := h; exact ⟨b2, h1, hR.2.2.1 b2 h2⟩)
        · intro ρ W hC hr hD
          obtain ⟨hrc, hrg, hrf, hrs⟩ := hr
          simp [go_sem] at hD
          have HCC := Lib.hid hC
          go_simp
          exact ⟨⟨HCC.out.ext (Ext.al _ _) (Nat.le_trans hbs HCC.out.below.size), RF.ext (Ext.al _ _)⟩, ⟨_, rfl, Blk.new _ _ _⟩⟩
        simp only [List.nil_append, List.cons_append]
        apply tame_v rfl (PutL (w.heap.size + 1) (li ++ [num x]) (.slice Ai ni ci) wr) (fun v W W' _ hR h => ⟨⟨hR.2.1 _ (List.prefix_refl _) v h.1.1, h.1.2⟩, h.2⟩)
        · intro ρ W hC hr hD
          obtain ⟨hrc, hrg, hrf, hrs⟩ := hr
          simp [go_sem] at hD
          have HCC := Lib.hid hC
          have d1 : ρ (.tmp 30) = .slice Ai ni ci := hD.1
          have d2 : OneF encI 3 (num x) (ρ (.tmp 39)) W := hD.2.1
          clear hD
          obtain ⟨v', W', hrun, k1, k2, k3, k4, k5, k6⟩ := run_putL (ty := 36) (hC.own i _ _ HVI.out HLI.out) HLB.out (Nat.le_trans hbs hC.below.size) d2
          show opGives _ _ _ _ _ _ _
          unfold opGives execOp
          simp only [resolve, invoke, builtin, Sem.run_bind, Sem.run_pure, Result.andThen_ok, List.map_toArray, List.map_cons, List.map_nil, d1, hrun]
          refine ⟨⟨⟨hC.below.trans k3, fun b e' cs ne hB => k4 _ _ _ ne (hC.off b e' cs ne hB), fun j v lj h1 h2 => ?_⟩, k2⟩, k1, k6.imp id (fun h => ⟨_, h, hC.below.size⟩)⟩
          by_cases hji : j = i
          · subst hji
            rw [HVI.out] at h1; rw [HLI.out] at h2
            injection h1 with h1; injection h2 with h2
            subst h1 h2
            exact ⟨k2.2.1 _ (List.prefix_append _ _) _ (hC.own j _ _ HVI.out HLI.out).1, (hC.own j _ _ HVI.out HLI.out).2⟩
          · exact (hC.own j v lj h1 h2).grown k5 (HDS.out j i v _ hji h1 HVI.out)
        simp only [List.nil_append, List.cons_append]
        repeat (apply tame_q rfl; (intro ρ W hC hr hD; (obtain ⟨hrc, hrg, hrf, hrs⟩ := hr); (simp [go_sem] at hD); go_simp; first | exact ⟨⟨hC, RF.refl _⟩, rfl⟩ | exact rfl); simp only [List.nil_append, List.cons_append])
        refine tame_end 44 rfl rfl (fun ρ W hC hr hF => ?_)
        obtain ⟨hrc, hrg, hrf, hrs⟩ := hr
        have h40 : PutL (w.heap.size + 1) (li ++ [num x]) (.slice Ai ni ci) wr (ρ (.tmp 40)) W := hF.2.2.2.2.2.2.2.2.2.2.2.2.2.2.2.2.2.1
        simp [go_sem] at hF
        obtain ⟨A4, n4, c4, e40, -, -, -⟩ := (show SlI W (ρ (.tmp 40)) _ from h40.1.1.sl (fun _ => rfl)).form
        rw [e40] at h40
        have H40 := Lib.hid h40
        have HCC := Lib.hid hC
        apply frame_to
        · go_simp
          exact rfl
        clear hF e40 h40 hC hrs hrc hrg hrf q1 q2 q4 q5 q6 q7 q8 q9 q10 q11 q0
        have HRW := Lib.hid (HCC.out.off _ _ _ (by decide) HLQ.out.row)
        have z0 : W.cell? ⟨w.heap.size + 1, i, none⟩ = some (.slice Ai ni ci) := by rw [HRW.out.cell i]; simpa using HVI.out
        have zf := HRW.out.frozen i
        have zl := HRW.out.lt
        have HOF := Lib.hid (offX_set (i := i) HRW.out (.slice A4 n4 c4))
        have HR2 := Lib.hid (show Blk (W.setCell ⟨w.heap.size + 1, i, none⟩ (.slice A4 n4 c4)) (w.heap.size + 1) 36 (vs.set i (.slice A4 n4 c4)).toArray by
          have := HRW.out.set_ i (.slice A4 n4 c4)
          rwa [List.setIfInBounds_toArray] at this)
        have HBW := Lib.hid ((HBQ.out.trans HCC.out.below).setCell (p := ⟨w.heap.size + 1, i, none⟩) (Nat.le_refl _) (.slice A4 n4 c4))
        go_wp2
        go_roundg (np - (k + 1))
        case measure => omega
        case rel => exact ⟨k + 1, vs.set i (.slice A4 n4 c4), by simp, by omega, by omega, by rw [HPT.out]; exact HLQ.out.put HCC.out HVI.out H40.out, HBW.out⟩
    · have hke : k = np := by omega
      subst hke
      have HF := Lib.hid (lotsTo_full (lt := lt) (plan := plan) (vals := l.map num) (k := k) (by have := HPL.out; omega) (by rw [List.length_map]; have := HL.out; omega))
      go_wp2
      go_ret
      exact ⟨⟨_, vs, rfl, Nat.le_succ _, by rw [← HF.out]; exact HLQ.out.mono (Nat.le_succ _)⟩, HEQ.out⟩
end Go.Proofs.YtkpengeaolcjhaaGreatDoor
/- mill.far, of, and the order of plans. -/
namespace Go.Proofs.YtkpengeaolcjhaaGreatDoor
open Go.RowKit Go.Shelf Go.Lib
set_option maxRecDepth 100000
set_option linter.unusedSimpArgs false

theorem foldM_bd : ∀ (l : List Int) (a : Int), (∀ x ∈ l, 0 ≤ x ∧ x ≤ 999) → 0 ≤ a ∧ a ≤ 999 → (0 ≤ l.foldl max a ∧ l.foldl max a ≤ 999) ∧ 0 ≤ l.foldl min a ∧ l.foldl min a ≤ 999
  | [], _, _, h => ⟨h, h⟩
  | x :: l, a, hx, h => by
    have h1 := hx x (by simp)
    exact ⟨(foldM_bd l (max a x) (fun y hy => hx y (by simp [hy])) (by omega)).1, (foldM_bd l (min a x) (fun y hy => hx y (by simp [hy])) (by omega)).2⟩
theorem far_ms {l : List Int} (h0 : 0 < l.length) (hb : ∀ x ∈ l, 0 ≤ x ∧ x ≤ 999) : maxs l - mins l = farL l ∧ 0 ≤ maxs l ∧ maxs l ≤ 999 ∧ 0 ≤ mins l ∧ mins l ≤ 999 := by
  match l, h0 with
  | x :: l, _ =>
    have h1 := hb x (by simp)
    have h2 := foldM_bd l x (fun y hy => hb y (by simp [hy])) h1
    unfold maxs mins farL maxO minO
    have e1 : max x x = x := by omega
    have e2 : min x x = x := by omega
    simp only [List.getElem?_cons_zero, Option.getD_some, List.foldl_cons, e1, e2]
    exact ⟨trivial, h2.1.1, h2.1.2, h2.2.1, h2.2.2⟩
def farTo (L : List (List Int)) (k : Nat) : Int := (L.take k).foldl (fun n l => max n (farL l)) 0
theorem farTo_succ {L : List (List Int)} {k : Nat} {l : List Int} (h : L[k]? = some l) : farTo L (k + 1) = max (farTo L k) (farL l) := by
  unfold farTo
  rw [List.take_add_one, h, List.foldl_append]
  rfl
theorem farTo_full {L : List (List Int)} {k : Nat} (h : L.length ≤ k) : farTo L k = farA L := by
  unfold farTo farA
  rw [List.take_of_length_le h]
set_option maxHeartbeats 1000000 in
theorem far_any {base go lt : Nat} {vs : List Value} {L : List (List Int)} (w : World) (h : LLs base go vs L w) (hlt : L.length = lt) (h3 : lt ≤ 3) (hb : ∀ l ∈ L, 0 < l.length ∧ ∀ x ∈ l, 0 ≤ x ∧ x ≤ 999) :
    Calls Tryz.prog 105 #[.slice (some ⟨go, 0, none⟩) lt lt] w fun e w' => e = .returned (.int .i64 (farA L)) ∧ Ext w w' := by
  have HH := Lib.hid h; have HB := Lib.hid hb; have HL := Lib.hid hlt
  have HF0 := Lib.hid (show farTo L 0 = 0 from rfl)
  clear h hb hlt
  go_enter Tryz.func105, Tryz.ntmps105
  go_wp2
  go_loopg [3, 8] lt (fun gg s3 s8 wr => ∃ k : Nat, s3 = .int .i64 (farTo L k) ∧ s8 = .int .i64 (k : Int) ∧ k ≤ lt ∧ lt - k ≤ gg ∧ Aside (Ext w wr))
  case atStart => exact ⟨0, by rw [HF0.out], by simp, by omega, by omega, Ext.refl _⟩
  case round =>
    obtain ⟨k, rfl, rfl, hk, hgg, HE⟩ := hrel
    by_cases hkl : k < lt
    · have hkz : (k : Int) < (lt : Int) := by omega
      have HQ := Lib.hid (HH.out.ext HE.out)
      obtain ⟨vi, hvi⟩ : ∃ v, vs[k]? = some v := ⟨_, List.getElem?_eq_getElem (by rw [HQ.out.len, HL.out]; exact hkl)⟩
      obtain ⟨li, hli⟩ : ∃ l, L[k]? = some l := ⟨_, List.getElem?_eq_getElem (by rw [HL.out]; exact hkl)⟩
      have hni := (HQ.out.own k vi li hvi hli).1
      obtain ⟨h0, hbd⟩ := HB.out li (List.mem_of_getElem? hli)
      obtain ⟨Ai, ni, ci, rfl, -, -, -⟩ := (show SlI wr vi li from hni.sl (fun _ => rfl)).form
      have q0 : wr.cell? ⟨go, k, none⟩ = some (.slice Ai ni ci) := by rw [HQ.out.row.cell k]; simpa using hvi
      have HSI := Lib.hid (show SlI wr (.slice Ai ni ci) li from hni.sl (fun _ => rfl))
      have HFS := Lib.hid (farTo_succ hli)
      obtain ⟨hfm, m1, m2, m3, m4⟩ := far_ms h0 hbd
      have HFM := Lib.hid hfm
      have hwm : IntKind.i64.wrap (maxs li - mins li) = farL li := by rw [← hfm, IntKind.wrap_i64]; omega
      have H0 := Lib.hid h0
      clear hvi hli hni hbd h0 hfm m1 m2 m3 m4
      go_wp2_with fail
      refine (f141_any li _ _ HSI.out H0.out).mono ?_
      rintro e w1 ⟨rfl, hE⟩
      have HE1 := Lib.hid (HE.out.trans hE)
      have HS1 := Lib.hid (HSI.out.ext hE)
      clear hE q0
      go_wp2_with fail
      refine (f142_any li _ _ HS1.out H0.out).mono ?_
      rintro e w2 ⟨rfl, hE⟩
      have HE2 := Lib.hid (HE1.out.trans hE)
      clear hE
      go_wp2
      go_roundg (lt - (k + 1))
      case measure => omega
      case rel => exact ⟨k + 1, by rw [HFS.out], by simp, by omega, by omega, HE2.out⟩
    · have HF := Lib.hid (farTo_full (L := L) (k := k) (by have := HL.out; omega))
      go_wp2
      go_ret
      exact ⟨by rw [← HF.out]; rfl, HE.out⟩

theorem f78_any (r : Rc) (w : World) : Calls Tryz.prog 78 #[valC r] w fun e w' => e = .returned (.int .i64 r.c.len) ∧ Ext w w' := by
  go_enter Tryz.func78, Tryz.ntmps78
  go_wp2
  go_ret
  exact ⟨rfl, Ext.al _ _⟩
theorem f106_any (r : Rc) (w : World) : Calls Tryz.prog 106 #[valC r] w fun e w' => e = .returned (.int .i64 r.c.str) ∧ Ext w w' := by
  go_enter Tryz.func106, Tryz.ntmps106
  go_wp2
  go_ret
  exact ⟨rfl, Ext.al _ _⟩
/-- A plan that gives each lot a bale. -/
structure POk (lt n : Nat) (plan : List Int) : Prop where
  len : plan.length = n
  rng : ∀ x ∈ plan, 0 ≤ x ∧ x ≤ (lt : Int)
  ne : ∀ i : Nat, i < lt → 0 < inLot plan ((i : Int) + 1)
theorem pok_of {lt : Nat} {size : Int} {l : List Rc} (hm : Mok (mOf lt size l)) {p : List Int} (h : p ∈ plansL (mOf lt size l)) : POk lt l.length p := by
  obtain ⟨h1, h2, h3⟩ := plans_mem hm h
  have hl3 : (lt : Int) ≤ 3 := hm.l3
  have hs2 : 2 ≤ size := hm.s2
  refine ⟨by rw [h1]; simp, h2, fun i hi => ?_⟩
  have h4 := h3 i (by omega)
  rw [if_pos (show (i : Int) < (lt : Int) by omega)] at h4
  have h5 : inLot p ((i : Int) + 1) = size := h4
  omega
theorem lots_bd {lt : Nat} {plan vals : List Int} (hp : POk lt vals.length plan) (hb : ∀ x ∈ vals, 0 ≤ x ∧ x ≤ 999) : ∀ l ∈ lotsL (lt : Int) plan vals, 0 < l.length ∧ ∀ x ∈ l, 0 ≤ x ∧ x ≤ 999 := by
  intro l hl
  unfold lotsL at hl
  rw [List.mem_map] at hl
  obtain ⟨i, hi, rfl⟩ := hl
  rw [List.mem_range] at hi
  have h1 := hp.ne i (by omega)
  have h2 := lotL_len (plan := plan) (vals := vals) hp.len ((i : Int) + 1)
  exact ⟨by omega, fun x hx => hb x (lotL_mem hx)⟩
/-- Lists of lists, somewhere new. -/
def LLv (base lt : Nat) (L : List (List Int)) (v : Value) (W : World) : Prop := ∃ go vs, v = .slice (some ⟨go, 0, none⟩) lt lt ∧ LLs base go vs L W
theorem LLv.ext {base lt : Nat} {L : List (List Int)} {v : Value} {W W' : World} (h : LLv base lt L v W) (e : Ext W W') : LLv base lt L v W' := by
  obtain ⟨go, vs, h1, h2⟩ := h
  exact ⟨go, vs, h1, h2.ext e⟩
theorem LLv.far {base lt : Nat} {L : List (List Int)} {v : Value} {W : World} (h : LLv base lt L v W) (hlt : L.length = lt) (h3 : lt ≤ 3) (hb : ∀ l ∈ L, 0 < l.length ∧ ∀ x ∈ l, 0 ≤ x ∧ x ≤ 999) :
    Calls Tryz.prog 105 #[v] W fun e w' => e = .returned (.int .i64 (farA L)) ∧ Ext W w' := by
  obtain ⟨go, vs, rfl, h2⟩ := h
  exact far_any W h2 hlt h3 hb
set_option maxHeartbeats 2000000 in
theorem of_any (lt : Nat) (size : Int) (l : List Rc) (plan : List Int) (sv pv : Value) (o : Option Nat) (w : World) (hm : Mok (mOf lt size l)) (hs : SlC w sv l) (hp : SlI w pv plan) (hpo : POk lt l.length plan) :
    Calls Tryz.prog 67 #[valTO (lt : Int) size sv o, pv] w fun e w' => e = .returned (valU (unev (mOf lt size l) plan)) ∧ Ext w w' := by
  have HS := Lib.hid hs; have HP := Lib.hid hp; have HPO := Lib.hid hpo
  obtain ⟨A, n, c, rfl, hn, hlc, hcm⟩ := hs.form
  obtain ⟨Ap, np, cp, rfl, hnp, hlp, hcp⟩ := hp.form
  have HL3 := Lib.hid (show lt ≤ 3 by have h : (lt : Int) ≤ 3 := hm.l3; omega)
  have HL7 := Lib.hid (show l.length ≤ 1000 by have h := hm.n7; simp at h; omega)
  have HU := Lib.hid (show unev (mOf lt size l) plan = (farA (lotsL lt plan (l.map (·.c.len))), farA (lotsL lt plan (l.map (·.c.str)))) by
    unfold unev lensL strsL; rw [List.map_map, List.map_map]; rfl)
  have HB1 := Lib.hid (lots_bd (plan := plan) (vals := l.map (·.c.len)) (by rw [List.length_map]; exact hpo) (fun x hx => by
    rw [List.mem_map] at hx
    obtain ⟨y, hy, rfl⟩ := hx
    have := hm.len y.c (List.mem_map_of_mem hy); omega))
  have HB2 := Lib.hid (lots_bd (plan := plan) (vals := l.map (·.c.str)) (by rw [List.length_map]; exact hpo) (fun x hx => by
    rw [List.mem_map] at hx
    obtain ⟨y, hy, rfl⟩ := hx
    have := hm.str y.c (List.mem_map_of_mem hy); omega))
  have HLL := Lib.hid (show ∀ vals, (lotsL (lt : Int) plan vals).length = lt from fun vals => by unfold lotsL; simp)
  clear hs hp hpo hm hn hnp
  go_enter Tryz.func67, Tryz.ntmps67
  go_wp2
  obtain ⟨w4, hw4⟩ : ∃ w4, w4 = (w.alloc (.cells #[.int .i64 (lt : Int), .int .i64 size, .slice A n c, .map o] 95)).alloc (.cells #[.int .i64 0, .int .i64 0] 106) := ⟨_, rfl⟩
  rw [← hw4]
  have B0 := Lib.hid (show Blk w4 w.heap.size 95 #[.int .i64 (lt : Int), .int .i64 size, .slice A n c, .map o] from hw4 ▸ (Blk.new _ _ _).alloc _)
  have B1 := Lib.hid (show Blk w4 (w.heap.size + 1) 106 #[.int .i64 0, .int .i64 0] from hw4 ▸ Blk.at_ (by simp))
  have E4 := Lib.hid (show Ext w w4 from hw4 ▸ (Ext.al _ _).alloc _)
  clear hw4
  have v0 := fun V (h : Ext w4 V) => (B0.out.ext h).c4.1
  have v1 := fun V (h : Ext w4 V) => (B0.out.ext h).c4.2.1
  have v2 := fun V (h : Ext w4 V) => (B0.out.ext h).c4.2.2.1
  have v3 := fun V (h : Ext w4 V) => (B0.out.ext h).c4.2.2.2.1
  refine wp_region_tame_cut (fun W => Ext w4 W) (fun W W' => Ext W W') (by kernel_rfl) 14 rfl _ rfl (by decide +kernel) (by decide +kernel) (by decide +kernel) rfl (Ext.refl _).drew ?_
  simp only [List.dropLast]
  repeat (apply tame_q rfl; (intro ρ W hC hr hD; (obtain ⟨hrc, hrg, hrf, hrs⟩ := hr); (simp [go_sem] at hD); go_simp; first | exact ⟨⟨hC, Ext.refl _⟩, rfl⟩ | exact ⟨⟨hC, RS.refl _⟩, rfl⟩ | exact rfl); simp only [List.nil_append, List.cons_append])
  apply tame_v rfl (LLv w.heap.size lt (lotsL lt plan (l.map (·.c.len)))) (fun v V V' _ hE h => h.ext hE)
  · intro ρ V hC hr hD
    obtain ⟨hrc, hrg, hrf, hrs⟩ := hr
    simp [go_sem] at hD
    have HCC := Lib.hid (E4.out.trans hC)
    have HC := Lib.hid hC
    go_simp
    refine (each_any lt size l plan _ _ o (fun r => r.c.len) 78 #[] (enters_of Tryz.func78 (by kernel_rfl) rfl) V (fun W r _ _ => by simpa using f78_any r W) (HS.out.ext HCC.out) (HP.out.ext HCC.out) HPO.out.len HPO.out.rng HL3.out HL7.out).mono ?_
    rintro e w' ⟨⟨go, vs, rfl, h1, h2⟩, hE⟩
    exact ⟨_, rfl, ⟨HC.out.trans hE, hE⟩, ⟨go, vs, rfl, h2.mono HCC.out.size⟩⟩
  simp only [List.nil_append, List.cons_append]
  apply tame_q rfl
  · intro ρ V hC hr hD
    obtain ⟨hrc, hrg, hrf, hrs⟩ := hr
    simp [go_sem] at hD
    have HC := Lib.hid hC
    go_simp
    refine (hD.far (HLL.out _) HL3.out HB1.out).mono ?_
    rintro e w' ⟨rfl, hE⟩
    exact ⟨_, rfl, ⟨HC.out.trans hE, hE⟩, rfl⟩
  simp only [List.nil_append, List.cons_append]
  repeat (apply tame_q rfl; (intro ρ W hC hr hD; (obtain ⟨hrc, hrg, hrf, hrs⟩ := hr); (simp [go_sem] at hD); go_simp; first | exact ⟨⟨hC, Ext.refl _⟩, rfl⟩ | exact ⟨⟨hC, RS.refl _⟩, rfl⟩ | exact rfl); simp only [List.nil_append, List.cons_append])
  apply tame_v rfl (LLv w.heap.size lt (lotsL lt plan (l.map (·.c.str)))) (fun v V V' _ hE h => h.ext hE)
  · intro ρ V hC hr hD
    obtain ⟨hrc, hrg, hrf, hrs⟩ := hr
    simp [go_sem] at hD
    have HCC := Lib.hid (E4.out.trans hC)
    have HC := Lib.hid hC
    go_simp
    refine (each_any lt size l plan _ _ o (fun r => r.c.str) 106 #[] (enters_of Tryz.func106 (by kernel_rfl) rfl) V (fun W r _ _ => by simpa using f106_any r W) (HS.out.ext HCC.out) (HP.out.ext HCC.out) HPO.out.len HPO.out.rng HL3.out HL7.out).mono ?_
    rintro e w' ⟨⟨go, vs, rfl, h1, h2⟩, hE⟩
    exact ⟨_, rfl, ⟨HC.out.trans hE, hE⟩, ⟨go, vs, rfl, h2.mono HCC.out.size⟩⟩
  simp only [List.nil_append, List.cons_append]
  apply tame_q rfl
  · intro ρ V hC hr hD
    obtain ⟨hrc, hrg, hrf, hrs⟩ := hr
    simp [go_sem] at hD
    have HC := Lib.hid hC
    go_simp
    refine (hD.far (HLL.out _) HL3.out HB2.out).mono ?_
    rintro e w' ⟨rfl, hE⟩
    exact ⟨_, rfl, ⟨HC.out.trans hE, hE⟩, rfl⟩
  simp only [List.nil_append, List.cons_append]
  repeat (apply tame_q rfl; (intro ρ W hC hr hD; (obtain ⟨hrc, hrg, hrf, hrs⟩ := hr); (simp [go_sem] at hD); go_simp; first | exact ⟨⟨hC, Ext.refl _⟩, rfl⟩ | exact ⟨⟨hC, RS.refl _⟩, rfl⟩ | exact rfl); simp only [List.nil_append, List.cons_append])
  refine tame_end 14 rfl rfl (fun ρ V hC hr hF => ?_)
  obtain ⟨hrc, hrg, hrf, hrs⟩ := hr
  simp [go_sem] at hF
  apply frame_to
  · go_simp
    exact rfl
  have HE := Lib.hid (E4.out.trans hC)
  have HB := Lib.hid (B1.out.ext hC)
  clear hC hF hrs hrc hrg hrf v0 v1 v2 v3
  obtain ⟨z0, z1, zf, zl⟩ := HB.out.c2
  go_wp2
  refine ret_set2 HB.out fun W' ⟨b0, b1⟩ hW => ?_
  refine bodyPost_ret (v := valU (unev (mOf lt size l) plan)) (by rw [HU.out]; simp [results, Tryz.results67, go_sem, b0, b1]) rfl ?_
  exact ⟨rfl, ext_grownP HE.out hW (by omega)⟩
end Go.Proofs.YtkpengeaolcjhaaGreatDoor
/- mill.first, at plans: the first one of several things by an order. -/
namespace Go.Proofs.YtkpengeaolcjhaaGreatDoor
open Go.RowKit Go.Shelf Go.Lib
set_option maxRecDepth 100000
set_option linter.unusedSimpArgs false
attribute [local go_sem] Oper.semAt_some

abbrev lessO {α : Type} (ord : α → α → Int) (a b : α) : Bool := decide (ord a b < 0)
set_option maxHeartbeats 4000000 in
theorem firstM_any {gf tf : FuncId} {lb fi tlb : Array Value} (eg : ∀ args w, (callFunc gf args).run Tryz.prog w = .ok (.enter gf args) w) (et : ∀ args w, (callFunc tf args).run Tryz.prog w = .ok (.enter tf args) w)
    {xs : List (List Int)} {ord : List Int → List Int → Int} {w : World} (hseq : ∀ w0, Ext w w0 → w.heap.size + 3 ≤ w0.heap.size → Seqs Tryz.prog gf lb w.heap.size (fun k => k = w.heap.size + 1 ∨ k = w.heap.size + 1 + 1) (fun x v W => SlI W v x) xs w0)
    (htest : ∀ x ∈ xs, ∀ y ∈ xs, ∀ v v' W, Below w.heap.size w W → SlI W v x → SlI W v' y → Calls Tryz.prog tf (fi ++ (#[v, v'] ++ tlb)) W fun e W' => e = .returned (.int .i64 (ord x y)) ∧ Ext W W') :
    Calls Tryz.prog 80 #[.func (.func gf) #[] lb, .func (.func tf) fi tlb] w fun e w' => ∃ v, e = .returned (.tuple #[v, .bool (firstM (lessO ord) xs).isSome]) ∧ SlI w' v ((firstM (lessO ord) xs).getD []) ∧ Below w.heap.size w w' := by
  refine calls_of_wp_marks Tryz.func80 rfl ?_
  simp only [Tryz.ntmps80, List.size_toArray, List.length_cons, List.length_nil, Nat.reduceAdd, Nat.reduceSub, Array.replicate_succ, Array.replicate_zero, List.push_toArray, List.append_toArray, List.nil_append, List.cons_append]
  go_wp2_with fail
  generalize hw3 : (((w.alloc (.cells #[.func (.func tf) fi tlb] 142)).alloc (.cells #[.slice none 0 0] 36)).alloc (.cells #[.bool false] 4)) = w3
  have E3 : Ext w w3 := by rw [← hw3]; exact ((Ext.al _ _).alloc _).alloc _
  have hz3 : w3.heap.size = w.heap.size + 3 := by rw [← hw3]; simp
  have B0 : Blk w3 w.heap.size 142 #[.func (.func tf) fi tlb] := by rw [← hw3]; exact ((Blk.new _ _ _).alloc _).alloc _
  have B1 : Blk w3 (w.heap.size + 1) 36 #[.slice none 0 0] := by rw [← hw3]; exact (Blk.at_ (by simp)).alloc _
  have B2 : Blk w3 (w.heap.size + 1 + 1) 4 #[.bool false] := by rw [← hw3]; exact Blk.at_ (by simp)
  have hS0 := hseq w3 E3 (by omega)
  refine wp_rangeFunc2 (by rfl) eg hS0 (Ext.refl _) (by omega) (fun x v W r o h hr => sl_put h hr)
    (fun pre W => Blk W w.heap.size 142 #[.func (.func tf) fi tlb] ∧ (∃ a n c, Blk W (w.heap.size + 1) 36 #[.slice a n c] ∧ SlX w3.heap.size W (.slice a n c) ((firstM (lessO ord) pre).getD [])) ∧ Blk W (w.heap.size + 1 + 1) 4 #[.bool (firstM (lessO ord) pre).isSome] ∧ Below w.heap.size w W)
    (fun _ _ _ => False)
    ?_ ?_ ?_ (fun v => { tmps := #[.func (.func gf) #[] lb, .func (.func tf) fi tlb, undef, .pointer (some ⟨w.heap.size, 0, none⟩), .slice none 0 0, .bool false, .pointer (some ⟨w.heap.size + 1, 0, none⟩), .pointer (some ⟨w.heap.size + 1 + 1, 0, none⟩), v, .func (.func gf) #[] lb, v, undef, undef, undef, undef, undef, undef, undef, undef, undef, undef, undef, undef], defers := [] }) ?_ ?_ ?_ ?_
  · rintro pre A B ⟨h1, ⟨a, n, c, h2, h3⟩, h4, h5⟩ hA hT
    exact ⟨h1.turn hT (by omega) (by omega), ⟨a, n, c, h2.turn hT (by omega) (by omega), h3.turn hT⟩, h4.turn hT (by omega) (by omega), hT.below h5 (by omega) (by omega)⟩
  · rintro c pre A B h
    exact h.elim
  · intro W hW
    exact ⟨B0.ext hW, ⟨_, _, _, B1.ext hW, ⟨none, 0, rfl, Nat.le_refl _, by decide, fun h => by cases h⟩⟩, B2.ext hW, E3.trans hW⟩
  · intro m l v W K hK
    gi_wp2
    exact hK
  · rintro m l pre x v W ⟨h2, ⟨a, n, c, h3, h7⟩, h4, h5⟩ hv hpre hlt hd hr
    have hx : x ∈ xs := by
      obtain ⟨q, hq⟩ := hpre
      rw [← hq]; simp
    have hpx : ∀ y ∈ pre, y ∈ xs := by
      obtain ⟨q, hq⟩ := hpre
      intro y hy
      rw [← hq]; simp [hy]
    have HV := Lib.hid hv; have H2 := Lib.hid h2; have H3 := Lib.hid h3; have H4 := Lib.hid h4; have H5 := Lib.hid h5; have H7 := Lib.hid h7
    have HX := Lib.hid (SlX.of hv hd hr)
    have HSN := Lib.hid (firstM_snoc (lessO ord) pre x)
    have HLT := Lib.hid hlt
    have HTE := Lib.hid htest
    have HPX := Lib.hid hpx; have HXX := Lib.hid hx
    obtain ⟨x0, -, l0⟩ := H2.out.c1
    obtain ⟨x1, f1, l1⟩ := H3.out.c1
    obtain ⟨x2, f2, l2⟩ := H4.out.c1
    obtain ⟨Av, nv, cv, rfl, -, -, -⟩ := HV.out.form
    clear hx hpx hv hpre hd hr h2 h3 h4 h5 h7 B0 B1 B2 hseq hS0 htest hlt
    cases hacc : firstM (lessO ord) pre with
    | none =>
      rw [hacc] at x2
      have HSM := Lib.hid (show firstM (lessO ord) (pre ++ [x]) = some x by rw [HSN.out, hacc]; rfl)
      clear hacc
      simp only [Option.isSome] at x2
      gi_wp2
      refine ⟨fun _ h => (by cases h), ?_⟩
      gi_wp2
      have hw := H5.out.size
      have hlt := HLT.out
      refine ⟨(((Keep.ext (Ext.refl W) hw).setCell (by dsimp only; omega) (.inl rfl) _).setCell (by dsimp only; omega) (.inr rfl) _), ?_, ?_, (H2.out.ext (Ext.refl W)).far (by dsimp only; omega) _ |>.far (by dsimp only; omega) _, ⟨_, _, _, ((H3.out.ext (Ext.refl W)).set_ 0 _).far (by dsimp only; omega) _, ?_⟩, ?_, ((H5.out.trans (Below.mono (Ext.refl W) hw)).setCell (by dsimp only; omega) _).setCell (by dsimp only; omega) _⟩
      · exact (Below.heap_setCell _ _ _ _ (by dsimp only; omega)).trans ((Below.heap_setCell _ _ _ _ (by dsimp only; omega)).trans (Below.block (Ext.refl W) _ (by omega)))
      · exact (Below.heap_setCell _ _ _ _ (by dsimp only; omega)).trans ((Below.heap_setCell _ _ _ _ (by dsimp only; omega)).trans (Below.block (Ext.refl W) _ (by omega)))
      · rw [HSM.out]; exact ((HX.out.ext (Ext.refl W)).set (H3.out.ext (Ext.refl W)) (by intro n h; cases h) _).set ((H4.out.ext (Ext.refl W)).far (by dsimp only; omega) _) (by intro n h; cases h) _
      · rw [HSM.out]; exact ((H4.out.ext (Ext.refl W)).far (by dsimp only; omega) _).set_ 0 _
    | some b =>
      rw [hacc] at x2
      have hb : b ∈ pre := by
        rcases firstM_mem (lessO ord) pre none b hacc with h | h
        · exact h
        · cases h
      have HS7 := Lib.hid (show SlX w3.heap.size W (.slice a n c) b by have := H7.out; rw [hacc] at this; exact this)
      have HTB := Lib.hid (HTE.out x HXX.out b (HPX.out b hb) _ _ W H5.out HX.out.sl HS7.out.sl)
      have HSN2 := Lib.hid (show firstM (lessO ord) (pre ++ [x]) = if ord x b < 0 then some x else some b by
        rw [HSN.out, hacc]; show (if lessO ord x b = true then _ else _) = _; by_cases h : ord x b < 0 <;> simp [h])
      have HAC := Lib.hid hacc
      clear hacc hb
      simp only [Option.isSome] at x2
      gi_wp2_with fail
      refine ⟨trivial, wide_depth _, ?_⟩
      refine (CallsIn.inRound l (callsIn_wide.2 HTB.out)).mono ?_
      rintro e W1 ⟨rfl, hE⟩
      have HE := Lib.hid hE
      clear hE x0 l0 x1 f1 l1 x2 f2 l2
      obtain ⟨x1, f1, l1⟩ := (H3.out.ext HE.out).c1
      obtain ⟨x2, f2, l2⟩ := (H4.out.ext HE.out).c1
      by_cases hlo : ord x b < 0
      · have HSM := Lib.hid (show firstM (lessO ord) (pre ++ [x]) = some x by rw [HSN2.out, if_pos hlo])
        gi_wp2
        have hw := H5.out.size
        have hlt := HLT.out
        have hs1 := HE.out.size
        refine ⟨(((Keep.ext (HE.out) hw).setCell (by dsimp only; omega) (.inl rfl) _).setCell (by dsimp only; omega) (.inr rfl) _), ?_, ?_, (H2.out.ext (HE.out)).far (by dsimp only; omega) _ |>.far (by dsimp only; omega) _, ⟨_, _, _, ((H3.out.ext (HE.out)).set_ 0 _).far (by dsimp only; omega) _, ?_⟩, ?_, ((H5.out.trans (Below.mono (HE.out) hw)).setCell (by dsimp only; omega) _).setCell (by dsimp only; omega) _⟩
        · exact (Below.heap_setCell _ _ _ _ (by dsimp only; omega)).trans ((Below.heap_setCell _ _ _ _ (by dsimp only; omega)).trans (Below.block (HE.out) _ (by omega)))
        · exact (Below.heap_setCell _ _ _ _ (by dsimp only; omega)).trans ((Below.heap_setCell _ _ _ _ (by dsimp only; omega)).trans (Below.block (HE.out) _ (by omega)))
        · rw [HSM.out]; exact ((HX.out.ext (HE.out)).set (H3.out.ext (HE.out)) (by intro n h; cases h) _).set ((H4.out.ext (HE.out)).far (by dsimp only; omega) _) (by intro n h; cases h) _
        · rw [HSM.out]; exact ((H4.out.ext (HE.out)).far (by dsimp only; omega) _).set_ 0 _
      · have HSM := Lib.hid (show firstM (lessO ord) (pre ++ [x]) = some b by rw [HSN2.out, if_neg hlo])
        gi_wp2
        have hw := H5.out.size
        have hlt := HLT.out
        exact ⟨Keep.ext HE.out hw, HE.out.block _ (by omega), HE.out.block _ (by omega), H2.out.ext HE.out, ⟨_, _, _, H3.out.ext HE.out, by rw [HSM.out]; exact HS7.out.ext HE.out⟩, by rw [HSM.out, ← HAC.out]; exact H4.out.ext HE.out, H5.out.trans (HE.out.mono hw)⟩
  · rintro W ⟨h2, ⟨a, n, c, h3, h7⟩, h4, h5⟩ hlt hK
    obtain ⟨fo, hfo⟩ : ∃ fo, firstM (lessO ord) xs = fo := ⟨_, rfl⟩
    rw [hfo] at h4 h7
    have HFO := Lib.hid hfo
    clear hfo
    have H3 := Lib.hid h3; have H4 := Lib.hid h4; have H5 := Lib.hid h5; have HKK := Lib.hid hK; have H7 := Lib.hid h7
    obtain ⟨a0, -, -⟩ := H3.out.c1
    obtain ⟨d0, -, -⟩ := H4.out.c1
    clear h2 h3 h4 h5 h7 B0 B1 B2 hK hseq htest E3 hS0
    have q0 := fun V (h : Ext W V) => (H3.out.ext h).c1.1
    have q1 := fun V (h : Ext W V) => (H4.out.ext h).c1.1
    clear a0 d0
    go_wp2_with fail
    refine wp_region_tame (fun V => Ext W V) (fun V V' => Ext V V') (by kernel_rfl) 23 rfl (by decide +kernel) (Ext.refl _).drew ?_
    repeat (apply tame_q rfl; (intro ρ W hC hr hD; (obtain ⟨hrc, hrg, hrf, hrs⟩ := hr); (simp [go_sem] at hD); go_simp; first | exact ⟨⟨hC, Ext.refl _⟩, rfl⟩ | exact ⟨⟨hC, RS.refl _⟩, rfl⟩ | exact rfl); simp only [List.nil_append, List.cons_append])
    refine tame_end 23 rfl rfl (fun ρ V hC hr hF => ?_)
    obtain ⟨hrc, hrg, hrf, hrs⟩ := hr
    simp [go_sem] at hF
    apply frame_to
    · go_simp
      exact rfl
    have HC := Lib.hid hC
    clear hF hrs hrc hrg hrf hC q0 q1
    have hK' := (HC.out.block w3.heap.size (by omega)).trans HKK.out
    have hbel : Below w.heap.size w V := H5.out.trans (HC.out.mono (H5.out.size))
    go_wp2
    refine ⟨by simp, .inl ⟨_, _, rfl, run_takeDeferred hK', ?_⟩⟩
    refine ⟨.tuple #[.slice a n c, .bool fo.isSome], by simp [results, Tryz.results80, go_sem], .slice a n c, ?_, ?_, ?_⟩
    · rw [HFO.out]
    · rw [HFO.out]; exact ((H7.out.ext HC.out).turn (Turn.put0 (s := w3.heap.size) _ _)).sl
    · exact Turn.below hbel (Turn.put0 (s := w3.heap.size) _ _) (by omega) hbel.size
  · rintro c pre W _ h
    exact h.elim
end Go.Proofs.YtkpengeaolcjhaaGreatDoor
/- mill.plans: all allowed plans, in order. -/
namespace Go.Proofs.YtkpengeaolcjhaaGreatDoor
open Go.RowKit Go.Shelf Go.Lib
set_option maxRecDepth 100000
set_option linter.unusedSimpArgs false

/-- append onto a slice that has no room: a list in new memory. -/
theorem run_appFull {W : World} {A : Option Addr} {n b : Nat} {g : List Int} {y : Int} (hs : SlI W (.slice A n n) g) (hy : Blk W b 3 #[.int .i64 y]) (ty : TypeId) (hl : g.length ≤ 1000) :
    ∃ v' W', (Builtin.append_ #[36, 36] ty #[.slice A n n, .slice (some ⟨b, 0, none⟩) 1 1]).run Tryz.prog W = .ok v' W' ∧ Own encI 3 1 W' W.heap.size v' (g ++ [y]) ∧ Ext W W' := by
  obtain ⟨i0, hi, hz0, hz1, hz2⟩ := info_parts info3x
  obtain ⟨A', c', hv, hlc, hcm, hx⟩ := hs
  injection hv with e1 e2 e3
  subst e1 e3
  have hnews : ∀ j u, (encI y)[j]? = some u → W.cell? ((⟨b, 0, none⟩ : Addr).add j) = some u := by
    intro j u hj
    cases j with
    | zero => simp at hj; subst hj; have := hy.cell 0; simpa [Addr.add] using this
    | succ j => simp at hj
  have h1 : ∀ u ∈ encI y, u.oneCell' = true := encI_one y
  cases A with
  | none =>
    have hg : g = [] := by
      by_cases h0 : 0 < g.length
      · obtain ⟨_, _, h, _⟩ := hx h0; cases h
      · exact List.eq_nil_of_length_eq_zero (by omega)
    subst hg
    obtain rfl : n = 0 := by simpa using e2
    obtain ⟨v', W', hr, h2, h3, -, -⟩ := run_append_own_at (P := Tryz.prog) W W.heap.size 36 ty 3 i0 (.int .i64 0) 1 8 Tryz.underlying36 hi hz0 hz1 hz2 rfl (by decide) (.slice none 0 0) 0 [] (World.ownsRow_nil _ _ _ _) ⟨b, 0, none⟩ 1 1 (encI y) rfl hnews h1 (by unfold maxLen; omega) (by omega) (Nat.le_refl _)
    exact ⟨v', W', hr, h2, ⟨h3.os, h3.tape, h3.output, h3.size, fun i hi => h3.block i hi (by simp [Value.ownBlock])⟩⟩
  | some a =>
    have hlg : (g.flatMap encI).length = n * i0.size := by rw [hz1, Nat.mul_one, enc_len (enc := encI) (sz := 1) (fun _ => rfl), e2, Nat.mul_one]
    have holds : ∀ j u, (g.flatMap encI)[j]? = some u → W.cell? (a.add j) = some u := by
      intro j u hj
      have hjl := (List.getElem?_eq_some_iff.1 hj).1
      rw [enc_len (enc := encI) (sz := 1) (fun _ => rfl), Nat.mul_one] at hjl
      obtain ⟨bb, off, ha, hb, hc⟩ := hx (by omega)
      injection ha with ha
      subst ha
      have hk : g[j]? = some g[j] := List.getElem?_eq_getElem hjl
      have h9 := flatMap_at (enc := encI) (sz := 1) (fun _ => rfl) g j g[j] hk 0 (.int .i64 g[j]) rfl
      rw [Nat.mul_one, Nat.add_zero, hj] at h9
      injection h9 with h9
      subst h9
      have h := hc j g[j] hk 0 _ rfl
      rw [Addr.add_lit]
      simpa using h
    have hr := run_append_grow (P := Tryz.prog) W 36 ty 3 i0 (.int .i64 0) Tryz.underlying36 hi hz0 a n n (g.flatMap encI) hlg holds ⟨b, 0, none⟩ 1 1 (encI y) (by rw [hz1]; rfl) hnews (by omega) (by omega) (growslice_fits (by omega) (by rw [hz2]; omega))
    have hge := grownCap_ge W (n + 1) n 3
    have hcm2 : grownCap W (n + 1) n 3 ≤ maxLen := grownCap_le_maxLen W (n + 1) n 3 (by unfold maxLen; omega)
    have hlen : (g.flatMap encI ++ encI y).length = n + 1 := by rw [List.length_append, hlg, hz1, Nat.mul_one]; rfl
    refine ⟨_, _, hr, ?_, (Ext.refl W).drew.alloc _⟩
    unfold Own
    rw [List.length_append, List.flatMap_append, ← e2]
    have e5 : ([y] : List Int).flatMap encI = encI y := by simp
    rw [e5]
    refine ⟨by rw [hlen]; simp, .inr ⟨W.heap.size, _, _, rfl, Nat.le_refl _, heap_alloc_new W.drew _, hge, hcm2, ?_, ?_⟩⟩
    · simp only [Array.size_append, List.size_toArray, size_zeroCells]
      rw [hlg, hz1]
      show n * 1 + 1 + (grownCap W (n + 1) n 3 - (n + 1)) * 1 = _
      omega
    · simp only [Array.toList_append, List.append_assoc]
      rw [← List.append_assoc]
      have : (List.length [y] + n) = n + 1 := by simp; omega
      show List.take ((n + 1) * 1) _ = _
      rw [Nat.mul_one, ← hlen]
      exact List.take_left

theorem und176 : Tryz.prog.underlying 176 = some (.array 3 3) := Tryz.underlying176
theorem neqF (f0 f1 f2 g0 g1 g2 : Int) (W : World) : (binOp .neq 176 (valF f0 f1 f2) (valF g0 g1 g2)).run Tryz.prog W = .ok (.bool (!decide ([f0, f1, f2] = [g0, g1, g2]))) W := by
  obtain ⟨i0, hi, hz0, hz1, hz2⟩ := info_parts info3x
  have u3 := Tryz.underlying3
  have a3 := Tryz.isAgg3
  have z3 := Tryz.sizeOf3
  rw [run_neq_struct, show (10000 : Nat) = 9999 + 1 from rfl, run_equalIn_array W _ _ _ und176 hi]
  have c3 : Tryz.prog.cellsOf 3 = 1 := by kernel_rfl
  simp only [Op.eqItems, List.range, List.range.loop, c3]
  go_simp
  by_cases h0 : f0 = g0 <;> by_cases h1 : f1 = g1 <;> by_cases h2 : f2 = g2 <;> simp [h0, h1, h2]
end Go.Proofs.YtkpengeaolcjhaaGreatDoor
/- mill.plans: the closure that goes on with a bale. -/
namespace Go.Proofs.YtkpengeaolcjhaaGreatDoor
open Go.RowKit Go.Shelf Go.Lib
set_option maxRecDepth 100000
set_option linter.unusedSimpArgs false

/-- What the closure sees. -/
structure PMl (fid : FuncId) (lid bt bfu by' bp lt : Nat) (size : Int) (A : Option Addr) (n c m : Nat) (F0 F1 F2 : Int) (W : World) : Prop where
  t0 : W.cell? ⟨bt, 0, none⟩ = some (.int .i64 (lt : Int))
  t1 : W.cell? ⟨bt, 1, none⟩ = some (.int .i64 size)
  t2 : W.cell? ⟨bt, 2, none⟩ = some (.slice A n c)
  t3 : W.cell? ⟨bt, 3, none⟩ = some (.map (some m))
  u0 : W.cell? ⟨bfu, 0, none⟩ = some (.int .i64 F0)
  u1 : W.cell? ⟨bfu, 1, none⟩ = some (.int .i64 F1)
  u2 : W.cell? ⟨bfu, 2, none⟩ = some (.int .i64 F2)
  y : W.cell? ⟨by', 0, none⟩ = some (.func (.yield lid) #[] #[])
  f : W.cell? ⟨bp, 0, none⟩ = some (.func (.func fid) #[] #[.pointer (some ⟨bt, 0, none⟩), .pointer (some ⟨bfu, 0, none⟩), .pointer (some ⟨by', 0, none⟩), .pointer (some ⟨bp, 0, none⟩)])
section
variable {fid : FuncId} {lid bt bfu by' bp lt : Nat} {size : Int} {A : Option Addr} {n c m : Nat} {F0 F1 F2 : Int} {V W : World}
theorem PMl.keep {n₀ : Nat} {X : Nat → Prop} (h : PMl fid lid bt bfu by' bp lt size A n c m F0 F1 F2 V) (k : Keep n₀ X V W) (x1 : ¬ X bt) (x2 : ¬ X bfu) (x3 : ¬ X by') (x4 : ¬ X bp) : PMl fid lid bt bfu by' bp lt size A n c m F0 F1 F2 W :=
  ⟨k.cell x1 h.t0, k.cell x1 h.t1, k.cell x1 h.t2, k.cell x1 h.t3, k.cell x2 h.u0, k.cell x2 h.u1, k.cell x2 h.u2, k.cell x3 h.y, k.cell x4 h.f⟩
theorem PMl.ext (h : PMl fid lid bt bfu by' bp lt size A n c m F0 F1 F2 V) (e : Ext V W) : PMl fid lid bt bfu by' bp lt size A n c m F0 F1 F2 W := by
  have k : ∀ {b i : Nat} {v : Value}, V.cell? ⟨b, i, none⟩ = some v → W.cell? ⟨b, i, none⟩ = some v := fun hc => (e.cells.1 _ _ (is_cells hc).1).trans hc
  exact ⟨k h.t0, k h.t1, k h.t2, k h.t3, k h.u0, k h.u1, k h.u2, k h.y, k h.f⟩
end
/-- The plans that begin so. -/
def tl (lt : Nat) (size : Int) (g : List Int) (rest : List Bool) (f : List Int) : List (List Int) := (plansF lt size rest f).map (g ++ ·)
theorem tl_nil_yes {lt : Nat} {size : Int} {g f : List Int} (h : f = fullF lt size) : tl lt size g [] f = [g] := by simp [tl, plansF, h]
theorem tl_nil_no {lt : Nat} {size : Int} {g f : List Int} (h : f ≠ fullF lt size) : tl lt size g [] f = [] := by simp [tl, plansF, h]
/-- .. of which the next bale is in one of the first k lots, or left. -/
def tlk (lt : Nat) (size : Int) (g : List Int) (b : Bool) (r : List Bool) (f : List Int) (k : Nat) : List (List Int) := (List.range k).flatMap fun lot => if okLot size b f lot then tl lt size (g ++ [(lot : Int)]) r (upF f lot) else []
theorem tlk_succ (lt : Nat) (size : Int) (g : List Int) (b : Bool) (r : List Bool) (f : List Int) (k : Nat) : tlk lt size g b r f (k + 1) = tlk lt size g b r f k ++ (if okLot size b f k then tl lt size (g ++ [(k : Int)]) r (upF f k) else []) := by
  unfold tlk
  rw [List.range_succ, List.flatMap_append]
  simp
theorem tl_cons (lt : Nat) (size : Int) (g : List Int) (b : Bool) (r : List Bool) (f : List Int) : tl lt size g (b :: r) f = tlk lt size g b r f (lt + 1) := by
  unfold tl tlk
  rw [plansF, List.map_flatMap]
  congr 1
  funext lot
  split
  · rw [List.map_map]
    unfold tl
    refine List.map_congr_left fun u _ => ?_
    simp
  · rfl
theorem tlk_pre (lt : Nat) (size : Int) (g : List Int) (b : Bool) (r : List Bool) (f : List Int) {k m : Nat} (h : k ≤ m) : tlk lt size g b r f k <+: tlk lt size g b r f m := by
  induction m with
  | zero => obtain rfl : k = 0 := by omega
            exact List.prefix_refl _
  | succ m ih =>
    by_cases hk : k = m + 1
    · rw [hk]; exact List.prefix_refl _
    · exact (ih (by omega)).trans (by rw [tlk_succ]; exact List.prefix_append _ _)

set_option maxHeartbeats 2000000 in
/-- No bale is left. -/
theorem put_leaf {fid : FuncId} {lid bt bfu by' bp lt n₀ : Nat} {size : Int} {A : Option Addr} {n c m : Nat} {F0 F1 F2 : Int} {X : Nat → Prop} {J Jx : List (List Int) → World → Prop} {tot : List (List Int)} (hF : [F0, F1, F2] = fullF lt size)
    (hJ0 : ∀ pre A B, J pre A → Ext A B → J pre B)
    (hY : ∀ m pre x v W1, J pre W1 → SlI W1 v x → pre ++ [x] <+: tot → YieldAt Fence.wide m Tryz.prog lid #[v] W1 fun e W' => (e = .returned (.bool true) ∧ J (pre ++ [x]) W' ∧ Keep n₀ X W1 W') ∨ (e = .returned (.bool false) ∧ Jx (pre ++ [x]) W'))
    (g : List Int) (f0 f1 f2 : Int) (B : Option Addr) (np cp : Nat) (pre : List (List Int)) (W₀ : World) (hs : SlI W₀ (.slice B np cp) g) (hM : PMl fid lid bt bfu by' bp lt size A n c m F0 F1 F2 W₀) (hnp : np = n) (hJ : J pre W₀) (hn0 : n₀ ≤ W₀.heap.size) (hp : pre ++ tl lt size g [] [f0, f1, f2] <+: tot) :
    Calls Tryz.prog 140 #[.slice B np cp, valF f0 f1 f2, .pointer (some ⟨bt, 0, none⟩), .pointer (some ⟨bfu, 0, none⟩), .pointer (some ⟨by', 0, none⟩), .pointer (some ⟨bp, 0, none⟩)] W₀ fun e W' =>
      (e = .returned (.bool true) ∧ J (pre ++ tl lt size g [] [f0, f1, f2]) W' ∧ Keep n₀ X W₀ W') ∨ (e = .returned (.bool false) ∧ ∃ q, q <+: tl lt size g [] [f0, f1, f2] ∧ Jx (pre ++ q) W') := by
  subst hnp
  have hneq := neqF f0 f1 f2 F0 F1 F2
  have HE1 := Lib.hid (Ext.al W₀ (.cells #[.int .i64 f0, .int .i64 f1, .int .i64 f2] 176))
  have HM := Lib.hid (hM.ext HE1.out)
  obtain ⟨t0, t1, t2, t3, u0, u1, u2, y, fc⟩ := hM
  have hb1 := (is_cells t0).1
  have hb2 := (is_cells u0).1
  have hb3 := (is_cells y).1
  by_cases hff : [f0, f1, f2] = [F0, F1, F2]
  · have hd : decide ([f0, f1, f2] = [F0, F1, F2]) = true := decide_eq_true hff
    rw [hd] at hneq
    rw [tl_nil_yes (hff.trans hF)] at hp ⊢
    obtain ⟨fn, tmps, assign, body, hy, hR⟩ := hY 0 pre g (.slice B np cp) _ (hJ0 _ _ _ hJ HE1.out) (hs.ext HE1.out) hp
    clear hff hd hF
    refine (callsIn_wide (n := 1)).1 (callsIn_of_wp Tryz.func140 rfl trivial ?_ rfl)
    simp only [Tryz.ntmps140, List.size_toArray, List.length_cons, List.length_nil, Nat.reduceAdd, Nat.reduceSub, Array.replicate_succ, Array.replicate_zero, List.push_toArray, List.append_toArray, List.nil_append, List.cons_append]
    refine (wpIn_wide (n := 1)).2 ?_
    go_wp2
    go_step3
    refine (wpIn_wide (n := 1)).1 ?_
    gi_wp2_with ((try refine ⟨wide_depth _, ?_⟩); refine hR.mono ?_; clear hR; rintro e W2 (⟨rfl, hJ2, hk⟩ | ⟨rfl, hx⟩))
    · try rw [Exit.noGoto_ret]
      go_ret
      exact .inl ⟨rfl, hJ2, (Keep.ext HE1.out hn0).trans hk⟩
    · try rw [Exit.noGoto_ret]
      go_ret
      exact .inr ⟨rfl, [g], List.prefix_refl _, hx⟩
  · have hd : decide ([f0, f1, f2] = [F0, F1, F2]) = false := decide_eq_false hff
    rw [hd] at hneq
    have HT := Lib.hid (tl_nil_no (lt := lt) (size := size) (g := g) (f := [f0, f1, f2]) (fun h => hff (h.trans hF.symm)))
    have HJ := Lib.hid (hJ0 _ _ _ hJ HE1.out)
    clear hff hd hF hY hJ0 hJ hp
    go_enter Tryz.func140, Tryz.ntmps140
    go_wp2
    go_step3
    go_wp2
    try rw [Exit.noGoto_ret]
    go_ret
    exact .inl ⟨rfl, by rw [HT.out, List.append_nil]; exact HJ.out, Keep.ext HE1.out hn0⟩
end Go.Proofs.YtkpengeaolcjhaaGreatDoor
