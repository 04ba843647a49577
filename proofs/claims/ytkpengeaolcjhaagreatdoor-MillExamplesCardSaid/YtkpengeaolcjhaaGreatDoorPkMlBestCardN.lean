/- core.cuts once more: its list lies in new memory. -/
import Derived.Test.YtkpengeaolcjhaaGreatDoorPkMlBestCardB
import Derived.Test.YtkpengeaolcjhaaGreatDoorPkMlBestCardM
import Derived.Test.YtkpengeaolcjhaaGreatDoorPkMlBestCardJ
import Derived.Test.YtkpengeaolcjhaaGreatDoorPkMlBestCardL
import Derived.LoopIn
import Derived.Test.YtkpengeaolcjhaaGreatDoorPkMlBestCardH
import Derived.Lib.SliceRun
import Derived.Test.YtkpengeaolcjhaaGreatDoorPkMlBestCardF
import Derived.Test.YtkpengeaolcjhaaGreatDoorPkMlBestCardG
import Derived.Test.YtkpengeaolcjhaaGreatDoorPkMlBestCardD
import Derived.RangeFuncBound
import Derived.OwnWalkIn
import Derived.TacticsInMore
import Derived.Test.YtkpengeaolcjhaaGreatDoorPkMlBestCardC
import Derived.WalkMore
import Derived.RegionTactic
namespace Go.Proofs.YtkpengeaolcjhaaGreatDoor
open Go.RowKit Go.Shelf
set_option maxRecDepth 100000
set_option linter.unusedSimpArgs false

end Go.Proofs.YtkpengeaolcjhaaGreatDoor
/- core.Kind. -/
namespace Go.Proofs.YtkpengeaolcjhaaGreatDoor
open Go.RowKit Go.Shelf
set_option maxRecDepth 100000
set_option linter.unusedSimpArgs false

theorem f100_any (r : Int) (g : Nat) (w : World) (h1 : w.cell? ⟨g, 0, none⟩ = some (.int .i64 r)) :
    Calls Tryz.prog 100 #[.pointer (some ⟨g, 0, none⟩)] w fun e w' => e = .returned (.bool (inB 1 4 r)) ∧ Ext w w' := by
  go_enter Tryz.func100, Tryz.ntmps100
  go_wp2_with fail
  refine (in1_any 1 4 r _ _ (by simp) (by simp [go_sem])).mono ?_
  rintro e w1 ⟨rfl, hb⟩
  have HB := Lib.hid hb; clear hb
  go_wp2
  go_ret
  exact ⟨rfl, (Ext.al _ _).trans HB.out⟩

set_option maxHeartbeats 4000000 in
theorem kindC_any (b : Bale) (r : Int) (dv wv : Value) (w : World) (hT : Tab w) (hd : SlD w dv b.draws) (hw : SlW w wv b.weighs) :
    Calls Tryz.prog 65 #[valB b dv wv, .int .i64 r] w fun e w' => e = .returned (.tuple #[.int .u8 (kindB b r), .int .i64 (askE b (inB 1 4 r) 32)]) ∧ Ext w w' := by
  have HT := Lib.hid hT
  have HD := Lib.hid hd
  have HW := Lib.hid hw
  obtain ⟨A, n, cp, rfl, hn, hlc, hcm⟩ := hd.form
  obtain ⟨A2, n2, cp2, rfl, hn2, hlc2, hcm2⟩ := hw.form
  clear hd hw hT
  go_enter Tryz.func65, Tryz.ntmps65
  go_wp2_with fail
  refine (asked_fn b _ _ _ 100 _ (enters_of Tryz.func100 (by kernel_rfl) rfl) (inB 1 4 r) 32 (by decide) (fun hv W hW => f100_any r _ W ((hW.cell (p := ⟨w.heap.size + 1, 0, none⟩) (by simp)).trans (by simp [go_sem]))) ((HT.out.ext (Ext.al _ _)).ext (Ext.al _ _)) ((HD.out.ext (Ext.al _ _)).ext (Ext.al _ _)) ((HW.out.ext (Ext.al _ _)).ext (Ext.al _ _))).mono ?_
  rintro e w1 ⟨pv, rfl, hpv, hpz, hE⟩
  have HEW := Lib.hid (((Ext.al w _).alloc _ : Ext w _).trans hE)
  have HBD := Lib.hid ((Blk.at_ (t := 3) (cs := #[.int .i64 r]) (w := w.alloc (.cells #[.int .i64 b.id, .int .i64 b.layers, .int .i64 b.dry.lo, .int .i64 b.dry.hi, .slice A n cp, .slice A2 n2 cp2] 61)) (g := w.heap.size + 1) (by simp)).ext hE)
  clear hE
  by_cases hz9 : askE b (inB 1 4 r) 32 = 0
  · obtain ⟨sv, lv, rfl, hs, hl⟩ := hpv hz9
    obtain ⟨h1, h2, h3⟩ := askE_zero hz9 (by decide)
    have hb5 := valid_bds h1
    have hr : 1 ≤ r ∧ r ≤ 4 := by unfold inB at h2; simpa using h2
    have HK := Lib.hid (show kindB b r = kindK (kindS b) r by unfold kindB; rw [if_pos hz9])
    have HZ := Lib.hid hz9
    obtain ⟨Al, nl, cl, rfl, hnl, hlc', hlm⟩ := hl.form
    have hln := spans_len b
    have hl0 : 0 < (spans b).length := by have := hb5.l1; omega
    have hl5 : (spans b).length ≤ 5 := by have := hb5.l5; omega
    obtain ⟨As, cs, rfl, hsc, hsm, hcx⟩ := id hs
    obtain ⟨bs, os, rfl, -, -⟩ := hcx hl0
    have HS := Lib.hid hs
    have hbd : ∀ x ∈ spans b, 0 ≤ x.lo ∧ x.lo ≤ 1000 ∧ x.hi ≤ 1000 := fun x hx => by have := spans_bd h1 x hx; omega
    have HMA := Lib.hid (fun W hS => kinds_any b (.slice A n cp) (.slice A2 n2 cp2) (.slice Al nl cl) bs os cs (spans b) 0 0 0 0 0 W hl5 hl0 hbd hS)
    generalize hsp : spans b = sp at *
    have HSP := Lib.hid hsp
    rw [hz9]
    dsimp only [valP]
    clear hz9 hs hl hsc hsm hcx hbd hb5 h1 h2 h3 hpv hpz hsp hln hl0 hl5
    have hlt := HBD.out.lt
    have d0 := HBD.out.cell 0
    simp at d0
    go_wp2_with fail
    refine (HMA.out _ (HS.out.ext (Ext.al _ _))).mono ?_
    rintro e w5 ⟨m, rfl, hmi, hE5⟩
    have HB5 := Lib.hid ((HBD.out.alloc _).ext hE5)
    have HE5 := Lib.hid ((HEW.out.trans (Ext.al _ _)).trans hE5); clear hE5
    have HKS := Lib.hid (show kindS b = kindsOf (truthsL (sp.zip [0, 0, 0, 0, 0])) by unfold kindS; rw [HSP.out])
    generalize kindsOf (truthsL (sp.zip [0, 0, 0, 0, 0])) = s at *
    have lk := hmi.look hr.1 hr.2
    have ln := hmi.len 3
    have hnm := S4.num_le s
    have e0 := HB5.out.cell 0
    simp at e0
    clear hmi d0
    cases hh : s.has r with
    | false =>
      rw [hh] at lk
      have HKK := Lib.hid (show kindK s r = 0 by unfold kindK; rw [hh]; rfl)
      go_wp2
      refine bodyPost_ret (v := .tuple #[.int .u8 0, .int .i64 0]) (by simp [results, Tryz.results65, go_sem]) rfl ?_
      exact ⟨by rw [HK.out, HZ.out, HKS.out, HKK.out], HE5.out⟩
    | true =>
      rw [hh] at lk
      by_cases hn1 : s.num = 1
      · have HKK := Lib.hid (show kindK s r = 2 by unfold kindK; rw [hh, hn1]; rfl)
        rw [hn1] at ln
        clear hn1 hnm
        go_wp2
        refine bodyPost_ret (v := .tuple #[.int .u8 2, .int .i64 0]) (by simp [results, Tryz.results65, go_sem]) rfl ?_
        exact ⟨by rw [HK.out, HZ.out, HKS.out, HKK.out], HE5.out⟩
      · have HKK := Lib.hid (show kindK s r = 1 by unfold kindK; rw [if_pos hh, if_neg hn1])
        have hn2 : ¬ ((s.num : Int) = 1) := by omega
        clear hn1
        go_wp2
        refine bodyPost_ret (v := .tuple #[.int .u8 1, .int .i64 0]) (by simp [results, Tryz.results65, go_sem]) rfl ?_
        exact ⟨by rw [HK.out, HZ.out, HKS.out, HKK.out], HE5.out⟩
  · have HK := Lib.hid (show kindB b r = 0 by unfold kindB; rw [if_neg hz9])
    obtain rfl := hpz hz9
    generalize hE9 : askE b (inB 1 4 r) 32 = E at hz9
    have HE9 := Lib.hid hE9; clear hE9 hpv hpz
    have HE1 := Lib.hid (HEW.out.alloc (.cells #[.int .i64 0, .int .i64 0, .int .i64 0, .int .i64 0, .slice none 0 0, .slice none 0 0, .slice none 0 0, .slice none 0 0] 166))
    go_wp2
    refine bodyPost_ret (v := .tuple #[.int .u8 0, .int .i64 E]) (by simp [results, Tryz.results65, go_sem]) rfl ?_
    exact ⟨by rw [HK.out, HE9.out], HE1.out⟩
end Go.Proofs.YtkpengeaolcjhaaGreatDoor
/- core.Cut. -/
namespace Go.Proofs.YtkpengeaolcjhaaGreatDoor
open Go.RowKit Go.Shelf Go.Lib
set_option maxRecDepth 100000
set_option linter.unusedSimpArgs false
attribute [local go_sem] Oper.semAt_some

theorem Blk.turn {s g : Nat} {t : TypeId} {cs : Array Value} {A B : World} (h : Blk A g t cs) (k : Turn s A B) (h1 : g ≠ s) (h2 : g ≠ s + 1) : Blk B g t cs := (k.block g h.lt h1 h2).trans h
theorem Blk.keep {n₀ g : Nat} {X : Nat → Prop} {t : TypeId} {cs : Array Value} {A B : World} (h : Blk A g t cs) (k : Keep n₀ X A B) (hx : ¬ X g) : Blk B g t cs := (k.c g h.lt hx ⟨_, _, _, h⟩).trans h

end Go.Proofs.YtkpengeaolcjhaaGreatDoor
/- core.Ask. -/
namespace Go.Proofs.YtkpengeaolcjhaaGreatDoor
open Go.RowKit Go.Shelf Go.Lib
set_option maxRecDepth 100000
set_option linter.unusedSimpArgs false

abbrev shown (j : Nat) (n : Int) : List Int := [0, 0, 0, 0, 0].set j n
end Go.Proofs.YtkpengeaolcjhaaGreatDoor
/- The reference's pinned and Ask. -/
namespace Go.Proofs.YtkpengeaolcjhaaGreatDoor
open Go.RowKit Go.Shelf Go.Lib
set_option maxRecDepth 100000
set_option linter.unusedSimpArgs false

theorem cell_set2 {W : World} {g p q : Nat} {u0 v : Value} (h0 : W.cell? ⟨g, p, none⟩ = some u0) : (W.setCell ⟨g, p, none⟩ v).cell? ⟨g, q, none⟩ = if p = q then some v else W.cell? ⟨g, q, none⟩ := by
  by_cases hpq : p = q
  · subst hpq; rw [if_pos rfl]; exact World.cell?_setCell_same (h := h0) ..
  · rw [if_neg hpq]; exact World.cell?_setCell_other (h := by intro e; injection e with _ e _; exact hpq e) ..
theorem Sl.put2 {W : World} {g o n c i : Nat} {l : List Span} {x : Span} (h : SlS W (.slice (some ⟨g, o, none⟩) n c) l) (hi : i < n) :
    SlS ((W.setCell ⟨g, o + i * 2, none⟩ (.int .i64 x.lo)).setCell ⟨g, o + i * 2 + 1, none⟩ (.int .i64 x.hi)) (.slice (some ⟨g, o, none⟩) n c) (l.set i x) := by
  obtain ⟨b, off, y, e1, hy, hb, hyc⟩ := h.at_ hi
  injection e1 with e1
  injection e1 with e1 e2
  subst e1 e2
  obtain ⟨c0, c1⟩ := SlS.cells hyc (Ext.refl _)
  obtain ⟨a', c', hv, hl, hc, hcell⟩ := h
  injection hv with e1 e2 e3
  subst e1 e2 e3
  refine ⟨_, _, by rw [List.length_set], by rw [List.length_set]; exact hl, hc, fun h0 => ?_⟩
  rw [List.length_set] at h0
  obtain ⟨b', off', hA, hb', hcell⟩ := hcell h0
  injection hA with hA
  injection hA with e1 e2
  subst e1 e2
  refine ⟨_, _, rfl, by simpa [World.setCell] using hb', fun k z hk j u hu => ?_⟩
  have c1' : (W.setCell ⟨g, o + i * 2, none⟩ (.int .i64 x.lo)).cell? ⟨g, o + i * 2 + 1, none⟩ = some (.int .i64 y.hi) := by rw [cell_set2 c0, if_neg (by omega)]; exact c1
  rw [cell_set2 c1', cell_set2 c0]
  have hj : j = 0 ∧ u = .int .i64 z.lo ∨ j = 1 ∧ u = .int .i64 z.hi := by
    match j, hu with
    | 0, hu => left; simp at hu; exact ⟨rfl, hu.symm⟩
    | 1, hu => right; simp at hu; exact ⟨rfl, hu.symm⟩
  rw [List.getElem?_set] at hk
  by_cases hik : i = k
  · subst hik
    simp only [if_true] at hk
    rw [if_pos (by omega)] at hk
    injection hk with hk
    subst hk
    rcases hj with ⟨rfl, rfl⟩ | ⟨rfl, rfl⟩
    · rw [if_neg (by omega), if_pos (by omega)]
    · rw [if_pos (by omega)]
  · rw [if_neg hik] at hk
    have := hcell k z hk j u hu
    rcases hj with ⟨rfl, rfl⟩ | ⟨rfl, rfl⟩
    · rw [if_neg (by omega), if_neg (by omega)]; exact this
    · rw [if_neg (by omega), if_neg (by omega)]; exact this

end Go.Proofs.YtkpengeaolcjhaaGreatDoor
/- The plain law: Ask. -/
namespace Go.Proofs.YtkpengeaolcjhaaGreatDoor
open Go.RowKit Go.Shelf
set_option linter.unusedSimpArgs false

end Go.Proofs.YtkpengeaolcjhaaGreatDoor
/- The plain law: Decide. -/
namespace Go.Proofs.YtkpengeaolcjhaaGreatDoor
open Go.RowKit Go.Shelf
set_option linter.unusedSimpArgs false

/-! lists of numbers -/
def ints (n : Nat) : List Int := (List.range n).map fun (i : Nat) => (i : Int)
end Go.Proofs.YtkpengeaolcjhaaGreatDoor
/- core's lists: the lists of some numbers, shorter ones first; slices.Clone. -/
namespace Go.Proofs.YtkpengeaolcjhaaGreatDoor
open Go.RowKit Go.Shelf Go.Lib
set_option maxRecDepth 100000
set_option linter.unusedSimpArgs false

/-- A slice in new memory, without room if it is empty. -/
def NewI (base : Nat) (l : List Int) (v : Value) (W : World) : Prop := Own encI 3 1 W base v l ∧ ∃ A c, v = .slice A l.length c ∧ (l.length = 0 → c = 0)
theorem NewI.mono {base base' : Nat} {l : List Int} {v : Value} {W : World} (h : NewI base l v W) (hb : base' ≤ base) : NewI base' l v W := ⟨h.1.mono hb, h.2⟩
theorem NewI.ext {base : Nat} {l : List Int} {v : Value} {W W' : World} (h : NewI base l v W) (e : Ext W W') : NewI base l v W' := ⟨h.1.ext e, h.2⟩
theorem own_form {W : World} {base : Nat} {v : Value} {l : List Int} (h : Own encI 3 1 W base v l) : (v = .slice none 0 0 ∧ l = []) ∨ ∃ g cap cur, v = .slice (some ⟨g, 0, none⟩) l.length cap ∧ base ≤ g ∧ W.heap[g]? = some (.cells cur 3 (0, 0)) ∧ l.length ≤ cap ∧ cap ≤ maxLen ∧ cur.size = cap ∧ cur.toList.take l.length = l.flatMap encI := by
  rcases h.2 with ⟨h1, h2⟩ | ⟨g, cap, cur, h1, h2, h3, h4, h5, h6, h7⟩
  · exact .inl ⟨h1, List.eq_nil_of_length_eq_zero h2⟩
  · exact .inr ⟨g, cap, cur, h1, h2, h3, h4, h5, by omega, by rw [Nat.mul_one] at h7; exact h7⟩
theorem run_copyI {W : World} {base g : Nat} (hB : Blk W g 3 #[]) (hg : base ≤ g) (hW : base ≤ W.heap.size) {x : Value} {l : List Int} (hx : SlI W x l) (hl : l.length ≤ 1000) (ty : TypeId) :
    ∃ v' W', (Builtin.append_ #[36, 36] ty #[.slice (some ⟨g, 0, none⟩) 0 0, x]).run Tryz.prog W = .ok v' W' ∧ NewI base l v' W' ∧ Ext W W' := by
  by_cases h0 : l.length = 0
  · have : l = [] := List.eq_nil_of_length_eq_zero h0
    subst this
    obtain ⟨i0, hi, hz0, hz1, hz2⟩ := info_parts info3x
    obtain ⟨A, c, rfl, _, _, _⟩ := hx
    refine ⟨_, _, run_append_nothing W 36 36 ty 3 i0 Tryz.underlying36 hi _ 0 0 (Nat.le_refl _) _ ?_, ⟨Own.new hB hg, _, _, rfl, fun _ => rfl⟩, Ext.refl _⟩
    exact ⟨.inl ⟨3, Tryz.underlying36⟩, fun _ => by simp [Builtin.lenOf], by cases A <;> simp [Builtin.firstCells, loadCells, loadCellsFrom], by cases A <;> simp [Builtin.firstCells, loadCells, loadCellsFrom], by simp, by simp⟩
  · obtain ⟨v', W', hr, h1, h2⟩ := run_copy (t := 36) (ty := ty) (enc := encI) (sz := 1) Tryz.underlying36 info3x rfl (by decide) (by decide) (fun _ => rfl) hB hg hW hx hl
    obtain ⟨A, n, c, hv, hn, _, _⟩ := (Own.sl (enc := encI) (fun _ => rfl) h1 : SlI W' v' l).form
    exact ⟨v', W', hr, ⟨h1, A, c, by rw [hv, hn], fun h => absurd h h0⟩, h2⟩
theorem wpList_copyI {ops : Array Oper} {rest : List Oper} {o : Oper} {a : Act} {Q : Exit → Act → World → Prop} {W : World} (hgd : o.guard = none) (s x : Operand)
    (ho : o.op = .call { callee := .builtin .append, args := #[s, x], argTypes := #[36, 36] }) {base g : Nat} (hs : a.eval s = .slice (some ⟨g, 0, none⟩) 0 0) {v : Value} (hx : a.eval x = v)
    (hB : Blk W g 3 #[]) (hg : base ≤ g) (hW : base ≤ W.heap.size) {l : List Int} (hl : SlI W v l) (hlen : l.length ≤ 1000)
    (h : ∀ v' W', NewI base l v' W' → Ext W W' → wpList Tryz.prog ops Q rest (a.put o.dst v') W') : wpList Tryz.prog ops Q (o :: rest) a W := by
  obtain ⟨v', W', hr, h1, h2⟩ := run_copyI hB hg hW hl hlen o.type
  refine wpList_plain hgd fun K hK => ?_
  unfold Oper.wp execOp
  simp only [ho, resolve, invoke, builtin, Sem.run_bind, Sem.run_pure, Result.andThen_ok, List.map_toArray, List.map_cons, List.map_nil, hs, hx, hr]
  exact hK _ _ (h v' W' h1 h2)

@[go_sem] theorem eql36nil (w : World) (a : Option Addr) (n c : Nat) : (binOp .eql 36 (.slice a n c) (.slice none 0 0)).run Tryz.prog w = .ok (.bool a.isNone) w := Lib.run_eql_slice_nil w 36 3 a n c 0 0 Tryz.underlying36
theorem cloneI_any (v : Value) (l : List Int) (w : World) (hs : SlI w v l) (hlen : l.length ≤ 1000) :
    Calls Tryz.prog 110 #[v] w fun e w' => ∃ v', e = .returned v' ∧ NewI w.heap.size l v' w' ∧ Ext w w' := by
  have HS := Lib.hid hs
  have HL := Lib.hid hlen
  obtain ⟨A, n, c, rfl, hn, hlc, hcm⟩ := hs.form
  have HN := Lib.hid (show A.isNone = true → l = [] ∧ n = 0 from fun h => by
    obtain ⟨A', c', hv, _, _, hx⟩ := hs
    injection hv with e1 e2 e3
    subst e1 e3
    have hl0 : l = [] := by
      by_cases h0 : 0 < l.length
      · obtain ⟨_, _, h1, _⟩ := hx h0; rw [h1] at h; cases h
      · exact List.eq_nil_of_length_eq_zero (by omega)
    exact ⟨hl0, by rw [e2, hl0]; rfl⟩)
  clear hs hlen hn hlc hcm
  cases hN : A.isNone with
  | true =>
    obtain ⟨rfl, rfl⟩ := HN.out hN
    clear HS HL HN
    go_enter Tryz.func110, Tryz.ntmps110
    go_wp2
    go_ret
    exact ⟨_, rfl, ⟨Own.nil _ _, _, _, rfl, fun _ => rfl⟩, Ext.refl _⟩
  | false =>
    clear HN
    go_enter Tryz.func110, Tryz.ntmps110
    go_wp2_with (at_builtin; refine wpList_copyI rfl (.tmp 5) (.tmp 6) rfl (base := w.heap.size) (g := w.heap.size) rfl rfl (Blk.new _ _ _) (Nat.le_refl _) (by simp) (HS.out.ext (Ext.al _ _)) HL.out ?_)
    intro v1 w1 hown hext
    have HE := Lib.hid (show Ext w w1 from (Ext.al _ _).trans hext)
    go_wp2
    go_ret
    exact ⟨_, rfl, hown, HE.out⟩

/-- A slice of one fresh number, in a block of one cell. -/
def OneB (y : Int) (v : Value) (W : World) : Prop := ∃ b, v = .slice (some ⟨b, 0, none⟩) 1 1 ∧ Blk W b 3 #[.int .i64 y]
/-- What an append onto a clone keeps. -/
def RC (base : Nat) (l : List Int) (y : Int) (W W' : World) : Prop :=
  W.heap.size ≤ W'.heap.size ∧ (∀ v, Own encI 3 1 W base v l → Own encI 3 1 W' base v l) ∧ (∀ z, l ++ [y] <+: z → ∀ v, Own encI 3 1 W base v z → Own encI 3 1 W' base v z) ∧ (∀ b, Blk W b 3 #[.int .i64 y] → Blk W' b 3 #[.int .i64 y]) ∧ ∀ b, Blk W b 3 #[] → Blk W' b 3 #[]
theorem RC.refl {base : Nat} {l : List Int} {y : Int} (W : World) : RC base l y W W := ⟨Nat.le_refl _, fun _ h => h, fun _ _ _ h => h, fun _ h => h, fun _ h => h⟩
theorem RC.ext {base : Nat} {l : List Int} {y : Int} {W W' : World} (e : Ext W W') : RC base l y W W' := ⟨e.size, fun _ h => h.ext e, fun _ _ _ h => h.ext e, fun _ h => h.ext e, fun _ h => h.ext e⟩
/-- What choose's call reads: the boxes of the yield, of all numbers, of choose. -/
structure LM (fid : FuncId) (l by' ba bl ca : Nat) (A : Option Addr) (all : List Int) (W : World) : Prop where
  a : W.cell? ⟨ba, 0, none⟩ = some (.slice A all.length ca)
  s : ∀ i x, all[i]? = some x → ∃ bb off, A = some ⟨bb, off, none⟩ ∧ W.cell? ⟨bb, off + i, none⟩ = some (.int .i64 x)
  y : W.cell? ⟨by', 0, none⟩ = some (.func (.yield l) #[] #[])
  f : W.cell? ⟨bl, 0, none⟩ = some (.func (.func fid) #[] #[.pointer (some ⟨by', 0, none⟩), .pointer (some ⟨ba, 0, none⟩), .pointer (some ⟨bl, 0, none⟩)])
theorem LM.keep {fid : FuncId} {l by' ba bl ca n₀ : Nat} {X : Nat → Prop} {A : Option Addr} {all : List Int} {V W : World} (h : LM fid l by' ba bl ca A all V) (k : Keep n₀ X V W) (x1 : ¬ X by') (x2 : ¬ X ba) (x3 : ¬ X bl) (x4 : ∀ b o, A = some ⟨b, o, none⟩ → ¬ X b) : LM fid l by' ba bl ca A all W :=
  ⟨k.cell x2 h.a, fun i x hx => by obtain ⟨bb, off, e, hc⟩ := h.s i x hx; exact ⟨bb, off, e, k.cell (x4 _ _ e) hc⟩, k.cell x1 h.y, k.cell x3 h.f⟩

end Go.Proofs.YtkpengeaolcjhaaGreatDoor
/- core.first: the first thing that is as it should be. -/
namespace Go.Proofs.YtkpengeaolcjhaaGreatDoor
open Go.RowKit Go.Shelf Go.Lib
set_option maxRecDepth 100000
set_option linter.unusedSimpArgs false
attribute [local go_sem] Oper.semAt_some

/-- **THE STATEMENT**, where the body is told that the loop's two records are no cells. -/
theorem wp_rangeFunc2 {α : Type} {P : Program} {g : Operand} {p : Tmp} {assign body : Code} {Q : Exit → Act → World → Prop} {a : Act} {w : World} {gf : FuncId} {lb : Array Value} (hg : a.eval g = .func (.func gf) #[] lb)
    (eg : ∀ args w, (callFunc gf args).run P w = .ok (.enter gf args) w) {n₀ : Nat} {X : Nat → Prop} {H : α → Value → World → Prop} {xs : List α} {w0 : World} (hseq : Seqs P gf lb n₀ X H xs w0) (hE : Ext w0 w) (hn : n₀ ≤ w.heap.size)
    (hH : ∀ x v W r o, H x v W → W.heap[w.heap.size + 1]? = some (.loop r) → H x v (W.putObj (w.heap.size + 1) o))
    (I : List α → World → Prop) (Ix : Code → List α → World → Prop) (hI : ∀ pre A B, I pre A → w.heap.size + 1 < A.heap.size → Turn w.heap.size A B → I pre B) (hIx : ∀ c pre A B, Ix c pre A → w.heap.size + 1 < A.heap.size → Turn w.heap.size A B → Ix c pre B)
    (h0 : ∀ W, Ext w W → I [] W) (a₁ : Value → Act)
    (hassign : ∀ (m l : Nat) (v : Value) (W : World) (K : Act → World → Prop), K (a₁ v) W → assign.wpIn (Fence.wide.inRound l) m P (Exit.then K (fun _ _ _ => False)) { tmps := a.tmps.setIfInBounds p v, defers := [] } W)
    (hbody : ∀ (m l : Nat) (pre : List α) (x : α) (v : Value) (W : World), I pre W → H x v W → pre ++ [x] <+: xs → w.heap.size + 1 < W.heap.size → (∃ d, W.heap[w.heap.size]? = some (.deferred d)) → (∃ r, W.heap[w.heap.size + 1]? = some (.loop r)) → body.wpIn (Fence.wide.inRound l) m P (rPost n₀ X w.heap.size I Ix (pre ++ [x]) W) (a₁ v) W)
    (hdone : ∀ W, I xs W → w.heap.size + 1 < W.heap.size → W.heap[w.heap.size]? = some (.deferred (some [])) → Q .normal { a with defers := { target := .collected w.heap.size, args := #[] } :: a.defers } W)
    (hstop : ∀ c pre W, pre <+: xs → Ix c pre W → w.heap.size + 1 < W.heap.size → W.heap[w.heap.size]? = some (.deferred (some [])) → c.wp P Q { a with defers := { target := .collected w.heap.size, args := #[] } :: a.defers } W) :
    (Code.rangeFunc g #[p] assign body).wp P Q a w := by
  refine (wpIn_wide (n := 0)).1 (wpIn_rangeFunc ?_)
  intro fn _
  obtain ⟨rec, hrec⟩ : ∃ rec : LoopState → Option Code → Loop, rec = fun st pe => { state := st, pending := pe, fn, tmps := a.tmps, params := #[p], assign, body, defers := w.heap.size } := ⟨_, rfl⟩
  generalize hW1 : (w.alloc (.deferred (some []))).alloc (.loop (rec .ready none)) = W1
  have hE1 : Ext w W1 := by rw [← hW1]; exact (Ext.al _ _).alloc _
  have hL1 : W1.heap[w.heap.size + 1]? = some (.loop (rec .ready none)) := by
    rw [← hW1]; have := World.alloc_heap_new (w.alloc (.deferred (some []))) (.loop (rec .ready none)); rwa [World.size_alloc] at this
  have hK1 : W1.heap[w.heap.size]? = some (.deferred (some [])) := by
    rw [← hW1]; exact (Below.heap_alloc _ _ _ (by simp)).trans (World.alloc_heap_new w _)
  have lt_of : ∀ {W : World} {o : Obj}, W.heap[w.heap.size + 1]? = some o → w.heap.size + 1 < W.heap.size := fun h => (Array.getElem?_eq_some_iff.1 h).1
  refine ⟨w.heap.size + 1, [{ target := .collected w.heap.size, args := #[] }], W1, { target := .fn (.func gf) lb, args := #[.func (.yield (w.heap.size + 1)) #[] #[]] }, W1, gf, #[.func (.yield (w.heap.size + 1)) #[] #[]] ++ lb, W1, ?_, ?_, fun _ _ => trivial, ?_, wide_depth _, ?_⟩
  · rw [wide_none, ← hW1, hrec]; exact run_enterLoop_outer _ _ _ _ _
  · simp only [resolve, hg]
    simp [go_sem]
  · simp [invoke, go_sem, eg]
  refine callsIn_wide.2 ((hseq (w.heap.size + 1)
    (fun pre W => I pre W ∧ W.heap[w.heap.size + 1]? = some (.loop (rec .ready none)) ∧ W.heap[w.heap.size]? = some (.deferred (some [])))
    (fun pre W => ∃ c, Ix c pre W ∧ W.heap[w.heap.size + 1]? = some (.loop (rec .done (some c))) ∧ W.heap[w.heap.size]? = some (.deferred (some [])))
    W1 (hE.trans hE1) ?_ ?_ ?_ ⟨h0 _ hE1, hL1, hK1⟩).mono ?_)
  · rintro pre A B ⟨h1, h2, h3⟩ hAB
    have hl := lt_of h2
    exact ⟨hI _ _ _ h1 hl (Turn.ext hAB), (hAB.block _ hl).trans h2, (hAB.block _ (by omega)).trans h3⟩
  · rintro pre A B ⟨c, h1, h2, h3⟩ hAB
    have hl := lt_of h2
    exact ⟨c, hIx _ _ _ _ h1 hl (Turn.ext hAB), (hAB.block _ hl).trans h2, (hAB.block _ (by omega)).trans h3⟩
  · rintro m pre x v W ⟨hi, hl, hk⟩ hx hpre
    have hlt := lt_of hl
    have hy := run_yield (P := P) (args := #[v]) hl (by rw [hrec]; rfl)
    refine ⟨fn, a.tmps.setIfInBounds p v, assign, body, by rw [hy, hrec]; simp, roundIn_of_wpIn trivial ?_⟩
    have hsz : ∀ (W : World) o, (W.putObj (w.heap.size + 1) o).heap.size = W.heap.size := fun _ _ => World.putObj_size
    have hb2 : (W.putObj (w.heap.size + 1) (.loop { rec .ready none with state := .busy })).heap[w.heap.size + 1]? = some (.loop { rec .ready none with state := .busy }) := World.putObj_heap_same hlt
    have hd2 : (W.putObj (w.heap.size + 1) (.loop { rec .ready none with state := .busy })).heap[w.heap.size]? = some (.deferred (some [])) := (World.putObj_heap_other (by omega)).trans hk
    have fin : ∀ (jump : Option Code) (W3 : World), W3.heap[w.heap.size + 1]? = some (.loop { rec .ready none with state := .busy }) → W3.heap[w.heap.size]? = some (.deferred (some [])) →
        (Instr.endRound (w.heap.size + 1) jump).run P W3 = .ok (.bool jump.isNone) (W3.putObj (w.heap.size + 1) (.loop (rec (if jump.isNone then .ready else .done) jump))) ∧
        (W3.putObj (w.heap.size + 1) (.loop (rec (if jump.isNone then .ready else .done) jump))).heap[w.heap.size + 1]? = some (.loop (rec (if jump.isNone then .ready else .done) jump)) ∧
        (W3.putObj (w.heap.size + 1) (.loop (rec (if jump.isNone then .ready else .done) jump))).heap[w.heap.size]? = some (.deferred (some [])) := fun jump W3 h1 h2 => by
      have := run_endRound (P := P) jump h1
      rw [hrec] at this ⊢
      exact ⟨this, World.putObj_heap_same (lt_of h1), (World.putObj_heap_other (by omega)).trans h2⟩
    have hstart : ∀ {A : Act}, A = a₁ v → ∃ w₂, (Instr.beginRound (w.heap.size + 1)).run P W = .ok () w₂ ∧ body.wpIn (Fence.wide.inRound (w.heap.size + 1)) m P (roundPost P (w.heap.size + 1) fun e W' =>
        (e = .returned (.bool true) ∧ (I (pre ++ [x]) W' ∧ W'.heap[w.heap.size + 1]? = some (.loop (rec .ready none)) ∧ W'.heap[w.heap.size]? = some (.deferred (some []))) ∧ Keep n₀ X W W') ∨
        (e = .returned (.bool false) ∧ ∃ c, Ix c (pre ++ [x]) W' ∧ W'.heap[w.heap.size + 1]? = some (.loop (rec .done (some c))) ∧ W'.heap[w.heap.size]? = some (.deferred (some [])))) A w₂ := by
      rintro A rfl
      refine ⟨_, run_beginRound hl (by rw [hrec]), wpIn_mono (hbody m _ pre x v _ (hI _ _ _ hi hlt (Turn.put _ _)) (hH _ _ _ _ _ hx hl) hpre (by rw [hsz]; exact hlt) ⟨_, hd2⟩ ⟨_, hb2⟩) ?_⟩
      rintro e a3 W3 hp
      cases e with
      | normal =>
        obtain ⟨hk3, hd3, hl3, hi3⟩ := hp
        rw [hb2] at hl3; rw [hd2] at hd3
        obtain ⟨hr, hl4, hd4⟩ := fin none W3 hl3 hd3
        exact ⟨_, _, hr, .inl ⟨rfl, ⟨hI _ _ _ hi3 (lt_of hl3) (Turn.put _ _), hl4, hd4⟩, ((keep_put hl hn).trans hk3).trans (keep_put hl3 hn)⟩⟩
      | ret =>
        obtain ⟨hd3, hl3, hi3⟩ := hp
        rw [hb2] at hl3; rw [hd2] at hd3
        obtain ⟨hr, hl4, hd4⟩ := fin (some .ret) W3 hl3 hd3
        exact ⟨_, _, hr, .inr ⟨rfl, .ret, hIx _ _ _ _ hi3 (lt_of hl3) (Turn.put _ _), hl4, hd4⟩⟩
      | exit id =>
        obtain ⟨hd3, hl3, hi3⟩ := hp
        rw [hb2] at hl3; rw [hd2] at hd3
        obtain ⟨hr, hl4, hd4⟩ := fin (some (.exit id)) W3 hl3 hd3
        exact ⟨_, _, hr, .inr ⟨rfl, .exit id, hIx _ _ _ _ hi3 (lt_of hl3) (Turn.put _ _), hl4, hd4⟩⟩
      | goto t =>
        obtain ⟨hd3, hl3, hi3⟩ := hp
        rw [hb2] at hl3; rw [hd2] at hd3
        obtain ⟨hr, hl4, hd4⟩ := fin (some (.goto t)) W3 hl3 hd3
        exact ⟨_, _, hr, .inr ⟨rfl, .goto t, hIx _ _ _ _ hi3 (lt_of hl3) (Turn.put _ _), hl4, hd4⟩⟩
      | panic ch => exact hp.elim
      | outgrown => exact hp.elim
    refine hassign m (w.heap.size + 1) v W _ ?_
    exact hstart rfl
  · rintro e W2 ⟨⟨v, rfl⟩, (⟨hi, hl, hk⟩ | ⟨pre, hpre, c, hi, hl, hk⟩)⟩
    · refine ⟨none, _, by have := run_endLoop (P := P) hl (by rw [hrec]; simp); rw [hrec] at this; exact this, ?_⟩
      exact hdone _ (hI _ _ _ hi (lt_of hl) (Turn.put _ _)) (by rw [World.putObj_size]; exact lt_of hl) ((World.putObj_heap_other (by omega)).trans hk)
    · refine ⟨some c, _, by have := run_endLoop (P := P) hl (by rw [hrec]; simp); rw [hrec] at this; exact this, ?_⟩
      exact wpIn_wide.2 (hstop c pre _ hpre (hIx _ _ _ _ hi (lt_of hl) (Turn.put _ _)) (by rw [World.putObj_size]; exact lt_of hl) ((World.putObj_heap_other (by omega)).trans hk))

@[go_sem] theorem callVal_func2 (g : FuncId) (fi lb vs : Array Value) : callVal (.func (.func g) fi lb) vs = callFunc g (fi ++ vs ++ lb) := by
  simp only [callVal, Deferred.ofValue]
  rfl
/-- A slice that does not lie in a loop's two records. -/
def SlX (s : Nat) (W : World) (v : Value) (x : List Int) : Prop :=
  ∃ a c, v = .slice a x.length c ∧ x.length ≤ c ∧ c ≤ maxLen ∧ (0 < x.length → ∃ b off, a = some ⟨b, off, none⟩ ∧ b < W.heap.size ∧ (b ≠ s ∧ b ≠ s + 1) ∧ ∀ k y, x[k]? = some y → ∀ j u, (encI y)[j]? = some u → W.cell? ⟨b, off + k * 1 + j, none⟩ = some u)
theorem SlX.sl {s : Nat} {W : World} {v : Value} {x : List Int} (h : SlX s W v x) : SlI W v x := by
  obtain ⟨a, c, hv, hl, hc, hcell⟩ := h
  refine ⟨a, c, hv, hl, hc, fun hz => ?_⟩
  obtain ⟨b, off, hA, hb, -, hcell⟩ := hcell hz
  exact ⟨b, off, hA, hb, hcell⟩
theorem SlX.of {s : Nat} {A : World} {v : Value} {x : List Int} (h : SlI A v x) (h0 : ∃ d, A.heap[s]? = some (.deferred d)) (h1 : ∃ r, A.heap[s + 1]? = some (.loop r)) : SlX s A v x := by
  obtain ⟨a, c, hv, hl, hc, hcell⟩ := h
  refine ⟨a, c, hv, hl, hc, fun hz => ?_⟩
  obtain ⟨b, off, hA, hb, hcell⟩ := hcell hz
  obtain ⟨d, h0⟩ := h0
  obtain ⟨r, h1⟩ := h1
  obtain ⟨c', t, f, hbk⟩ := (is_cells (hcell 0 x[0] (List.getElem?_eq_getElem hz) 0 _ rfl)).2
  exact ⟨b, off, hA, hb, ⟨(by rintro rfl; rw [hbk] at h0; cases h0), (by rintro rfl; rw [hbk] at h1; cases h1)⟩, hcell⟩
theorem SlX.turn {s : Nat} {A B : World} {v : Value} {x : List Int} (h : SlX s A v x) (hT : Turn s A B) : SlX s B v x := by
  obtain ⟨a, c, hv, hl, hc, hcell⟩ := h
  refine ⟨a, c, hv, hl, hc, fun hz => ?_⟩
  obtain ⟨b, off, hA, hb, hn, hcell⟩ := hcell hz
  exact ⟨b, off, hA, Nat.lt_of_lt_of_le hb hT.size, hn, fun k y hy j u hu => (World.cell?_of_block (a := ⟨b, _, none⟩) (hT.block b hb hn.1 hn.2)).trans (hcell k y hy j u hu)⟩
theorem SlX.ext {s : Nat} {A B : World} {v : Value} {x : List Int} (h : SlX s A v x) (hE : Ext A B) : SlX s B v x := h.turn (Turn.ext hE)
theorem SlX.set {s : Nat} {A : World} {v : Value} {x : List Int} (h : SlX s A v x) {g i : Nat} {t : TypeId} {u0 : Value} (hB : Blk A g t #[u0]) (hu0 : ∀ n, u0 ≠ .int .i64 n) (u : Value) : SlX s (A.setCell ⟨g, i, none⟩ u) v x := by
  obtain ⟨a, c, hv, hl, hc, hcell⟩ := h
  refine ⟨a, c, hv, hl, hc, fun hz => ?_⟩
  obtain ⟨b, off, hA, hb, hn, hcell⟩ := hcell hz
  refine ⟨b, off, hA, by simpa [World.setCell] using hb, hn, fun k y hy j w hw => ?_⟩
  have hx := hcell k y hy j w hw
  have hw' : w = .int .i64 y := by
    match j, hw with
    | 0, hw => simpa using hw.symm
  have hbg : b ≠ g := by
    rintro rfl
    rw [hB.cell, hw'] at hx
    cases hi : off + k * 1 + j with
    | zero => rw [hi] at hx; simp at hx; exact hu0 _ hx
    | succ m => rw [hi] at hx; simp at hx
  exact (World.cell?_of_block (a := ⟨b, _, none⟩) (Below.heap_setCell A ⟨g, i, none⟩ u b hbg)).trans hx

end Go.Proofs.YtkpengeaolcjhaaGreatDoor
/- slices.DeleteFunc at draws and weighings, on memory of the call's own; slices.Clone at them. -/
namespace Go.Proofs.YtkpengeaolcjhaaGreatDoor
open Go.RowKit Go.Shelf Go.Lib
set_option maxRecDepth 100000
set_option linter.unusedSimpArgs false

theorem own_cellset {w : World} {base sz g n cap k : Nat} {e : TypeId} {xs : List Value} {u : Value} (h : w.ownsRow base e sz (.slice (some ⟨g, 0, none⟩) n cap) n xs) : (w.setCell ⟨g, k, none⟩ u).ownsRow base e sz (.slice (some ⟨g, 0, none⟩) n cap) n (xs.set k u) := by
  obtain ⟨h1, h2⟩ := h
  refine ⟨by rw [List.length_set]; exact h1, .inr ?_⟩
  rcases h2 with ⟨h2, _⟩ | ⟨g', cap', cur, e1, hb, hh, hlc, hcm, hs, ht⟩
  · cases h2
  · injection e1 with e1 e2 e3
    injection e1 with e1
    injection e1 with e1 _ _
    subst e1 e3
    refine ⟨g, cap, cur.setIfInBounds k u, rfl, hb, ?_, hlc, hcm, by simpa using hs, ?_⟩
    · simp [World.setCell, Array.getElem?_modify, hh]
    · rw [Array.toList_setIfInBounds, ← ht]
      rw [List.take_set]
theorem own_frozen {α : Type} {enc : α → List Value} {w : World} {base g n cap sz : Nat} {e : TypeId} {m : List α} (h : Own enc e sz w base (.slice (some ⟨g, 0, none⟩) n cap) m) (k : Nat) : w.frozen? ⟨g, k, none⟩ = false := by
  rcases h.2 with ⟨h2, _⟩ | ⟨g', cap', cur, e1, hb, hh, _⟩
  · cases h2
  · injection e1 with e1 _ _
    injection e1 with e1
    injection e1 with e1 _ _
    subst e1
    simp [World.frozen?, hh]
/-- The row, cut short. -/
theorem own_short {α : Type} {enc : α → List Value} {sz : Nat} (henc : ∀ x, (enc x).length = sz) {w : World} {base g n cap k : Nat} {e : TypeId} {m : List α} (h : Own enc e sz w base (.slice (some ⟨g, 0, none⟩) n cap) m) (hk : k ≤ m.length) :
    Own enc e sz w base (.slice (some ⟨g, 0, none⟩) k cap) (m.take k) := by
  obtain ⟨h1, h2⟩ := h
  refine ⟨enc_len henc _, .inr ?_⟩
  rcases h2 with ⟨h2, _⟩ | ⟨g', cap', cur, e1, hb, hh, hlc, hcm, hs, ht⟩
  · cases h2
  · injection e1 with e1 e2 e3
    injection e1 with e1
    injection e1 with e1 _ _
    subst e1 e3
    have hl : (m.take k).length = k := by rw [List.length_take]; omega
    refine ⟨g, cap, cur, by rw [hl], hb, hh, by rw [hl]; omega, hcm, hs, ?_⟩
    rw [hl]
    have hm : m.flatMap enc = (m.take k).flatMap enc ++ (m.drop k).flatMap enc := by rw [← List.flatMap_append, List.take_append_drop]
    have h3 : (cur.toList.take (m.length * sz)).take (k * sz) = cur.toList.take (k * sz) := by
      rw [List.take_take, Nat.min_eq_left (Nat.mul_le_mul_right _ hk)]
    rw [← h3, ht, hm, List.take_append_of_le_length (by rw [enc_len henc, hl]; exact Nat.le_refl _), List.take_of_length_le (by rw [enc_len henc, hl]; exact Nat.le_refl _)]
/-- clear of a row's end. -/
theorem run_clear_own {α : Type} {enc : α → List Value} {sz : Nat} (henc : ∀ x, (enc x).length = sz) {t e ty : TypeId} {z : Value} (ht : Tryz.prog.underlying t = some (.slice e)) (hz : ∀ W, (zeroValue e).run Tryz.prog W = .ok z W) (hzs : z.cells.size = sz) (hsz : 0 < sz) (hz1 : ∀ i, i < sz → (z.cells[i]!).oneCell' = true)
    {w : World} {base g n cap k c : Nat} {m : List α} (h : Own enc e sz w base (.slice (some ⟨g, 0, none⟩) n cap) m) (hn : n = m.length) (hk : k ≤ n) :
    ∃ w', (Builtin.clear_ #[t] ty #[.slice (some ⟨g, k * sz, none⟩) (n - k) c]).run Tryz.prog w = .ok (.tuple #[]) w' ∧ Own enc e sz w' base (.slice (some ⟨g, 0, none⟩) k cap) (m.take k) ∧ w.grownBy w' (some g) := by
  by_cases h0 : n - k = 0
  · refine ⟨w, ?_, own_short henc h (by omega), World.grownBy.refl _ _⟩
    rw [h0]
    simp [Builtin.clear_, run_underlying ht]
  · obtain ⟨h1, h2⟩ := id h
    rcases h2 with ⟨h2, _⟩ | ⟨g', cap', cur, e1, hb, hh, hlc, hcm, hs, htk⟩
    · cases h2
    · injection e1 with e1 e2 e3
      injection e1 with e1
      injection e1 with e1 _ _
      subst e1 e3
      obtain ⟨q, hq⟩ : ∃ q, n - k = q + 1 := ⟨n - k - 1, by omega⟩
      have hle : (Builtin.zeroCells z.cells (n - k)).toList.length = (n - k) * sz := by rw [Array.length_toList, size_zeroCells, hzs]
      have hsum : k * sz + (n - k) * sz = n * sz := by rw [← Nat.add_mul, Nat.add_sub_cancel' hk]
      have hns : n * sz ≤ cap * sz := Nat.mul_le_mul_right _ (by omega)
      have hst := run_storeCells_at (P := Tryz.prog) g (k * sz) e (Builtin.zeroCells z.cells (n - k)).toList 0 cur w hh (by rw [hle, hs]; omega) (fun u hu => by
        simp only [Builtin.zeroCells, Array.toList_map, List.mem_map] at hu
        obtain ⟨i, -, rfl⟩ := hu
        exact hz1 _ (by rw [hzs]; exact Nat.mod_lt _ hsz))
      generalize hrow : (cur.toList.take (k * sz + 0) ++ (Builtin.zeroCells z.cells (n - k)).toList ++ cur.toList.drop (k * sz + 0 + (Builtin.zeroCells z.cells (n - k)).toList.length)).toArray = row at hst
      refine ⟨w.setRow g row, ?_, ?_, ⟨rfl, rfl, rfl, by simp [World.setRow], fun i _ hi => setRow_other w g i _ (fun e => hi (by rw [e]))⟩⟩
      · have h9 := hst
        rw [hq] at h9 ⊢
        simp [Builtin.clear_, run_underlying ht, hz, h9]
      · obtain ⟨s1, s2⟩ := own_short henc h (show k ≤ m.length by omega)
        refine ⟨s1, .inr ?_⟩
        rcases s2 with ⟨s2, _⟩ | ⟨g', cap', cur', e1, hb', hh', hlc', hcm', hs', htk'⟩
        · cases s2
        · injection e1 with e1 e2 e3
          injection e1 with e1
          injection e1 with e1 _ _
          subst e1 e3
          rw [hh] at hh'
          injection hh' with hh'
          injection hh' with hh' _ _
          subst hh'
          refine ⟨g, cap, row, by rw [← e2], hb, setRow_heap w g cur row e _ hh, hlc', hcm, ?_, ?_⟩
          · rw [← hrow]
            simp only [List.size_toArray, List.length_append, List.length_take, List.length_drop, hle, Array.length_toList]
            omega
          · rw [← htk', ← hrow, Nat.add_zero]
            have hl : (m.take k).length = k := by rw [List.length_take]; omega
            rw [hl]
            show List.take (k * sz) (List.take (k * sz) cur.toList ++ (Builtin.zeroCells z.cells (n - k)).toList ++ _) = _
            rw [List.append_assoc, List.take_append_of_le_length (by rw [List.length_take, Array.length_toList]; omega), List.take_take, Nat.min_self]
theorem ext_row {a b : World} (h : Ext a b) (row : Option Nat) : a.grownBy b row := ⟨h.os, h.tape, h.output, h.size, fun i hi _ => h.block i hi⟩
theorem row_below {a b : World} {base g : Nat} (h : a.grownBy b (some g)) (hb : base ≤ a.heap.size) (hg : base ≤ g) : Below base a b := (Below.refl base a).grown h hb (fun k e => by injection e with e; omega)
theorem idxF_cases {α : Type} (p : α → Bool) (l : List α) : (idxF p l = -1 ∧ ∀ x ∈ l, p x = false) ∨ ∃ k x, idxF p l = (k : Nat) ∧ l[k]? = some x ∧ p x = true ∧ ∀ j y, j < k → l[j]? = some y → p y = false := by
  cases h : l.findIdx? p with
  | none =>
    rw [List.findIdx?_eq_none_iff] at h
    exact .inl ⟨idxF_none p l h, h⟩
  | some k =>
    rw [List.findIdx?_eq_some_iff_getElem] at h
    obtain ⟨hk, hp, hj⟩ := h
    have hj' : ∀ j y, j < k → l[j]? = some y → p y = false := fun j y hjk hy => by
      have h1 := hj j hjk
      obtain ⟨h2, h3⟩ := List.getElem?_eq_some_iff.1 hy
      rw [h3] at h1
      simpa using h1
    exact .inr ⟨k, l[k], idxF_some p l k _ (List.getElem?_eq_getElem hk) hp hj', List.getElem?_eq_getElem hk, hp, hj'⟩

end Go.Proofs.YtkpengeaolcjhaaGreatDoor
/- slices.Clone at draws and weighings; core.copied. -/
namespace Go.Proofs.YtkpengeaolcjhaaGreatDoor
open Go.RowKit Go.Shelf Go.Lib
set_option maxRecDepth 100000
set_option linter.unusedSimpArgs false

@[go_sem] theorem eql58nil (w : World) (a : Option Addr) (n c : Nat) : (binOp .eql 58 (.slice a n c) (.slice none 0 0)).run Tryz.prog w = .ok (.bool a.isNone) w := Lib.run_eql_slice_nil w 58 134 a n c 0 0 Tryz.underlying58
theorem wpList_copyD {ops : Array Oper} {rest : List Oper} {o : Oper} {a : Act} {Q : Exit → Act → World → Prop} {W : World} (hgd : o.guard = none) (s x : Operand)
    (ho : o.op = .call { callee := .builtin .append, args := #[s, x], argTypes := #[58, 58] }) {base g : Nat} (hs : a.eval s = .slice (some ⟨g, 0, none⟩) 0 0) {v : Value} (hx : a.eval x = v)
    (hB : Blk W g 134 #[]) (hg : base ≤ g) (hW : base ≤ W.heap.size) {l : List Draw} (hl : SlD W v l) (hlen : l.length ≤ 1000)
    (h : ∀ v' W', Own encD 134 4 W' base v' l → Ext W W' → wpList Tryz.prog ops Q rest (a.put o.dst v') W') : wpList Tryz.prog ops Q (o :: rest) a W := by
  obtain ⟨v', W', hr, h1, h2⟩ := run_copy (t := 58) (ty := o.type) (enc := encD) (sz := 4) Tryz.underlying58 info134x rfl (by decide) (by decide) (fun _ => rfl) hB hg hW hl hlen
  refine wpList_plain hgd fun K hK => ?_
  unfold Oper.wp execOp
  simp only [ho, resolve, invoke, builtin, Sem.run_bind, Sem.run_pure, Result.andThen_ok, List.map_toArray, List.map_cons, List.map_nil, hs, hx, hr]
  exact hK _ _ (h v' W' h1 h2)
theorem cloneD_any (v : Value) (l : List Draw) (w : World) (hs : SlD w v l) (hlen : l.length ≤ 1000) :
    Calls Tryz.prog 115 #[v] w fun e w' => ∃ v', e = .returned v' ∧ Own encD 134 4 w' w.heap.size v' l ∧ Ext w w' := by
  have HS := Lib.hid hs
  have HL := Lib.hid hlen
  obtain ⟨A, n, c, rfl, hn, hlc, hcm⟩ := hs.form
  have HN := Lib.hid (show A.isNone = true → l = [] ∧ n = 0 from fun h => by
    obtain ⟨A', c', hv, _, _, hx⟩ := hs
    injection hv with e1 e2 e3
    subst e1 e3
    have hl0 : l = [] := by
      by_cases h0 : 0 < l.length
      · obtain ⟨_, _, h1, _⟩ := hx h0; rw [h1] at h; cases h
      · exact List.eq_nil_of_length_eq_zero (by omega)
    exact ⟨hl0, by rw [e2, hl0]; rfl⟩)
  clear hs hlen hn hlc hcm
  cases hN : A.isNone with
  | true =>
    obtain ⟨rfl, rfl⟩ := HN.out hN
    clear HS HL HN
    go_enter Tryz.func115, Tryz.ntmps115
    go_wp2
    go_ret
    exact ⟨_, rfl, Own.nil _ _, Ext.refl _⟩
  | false =>
    clear HN
    go_enter Tryz.func115, Tryz.ntmps115
    go_wp2_with (at_builtin; refine wpList_copyD rfl (.tmp 5) (.tmp 6) rfl (base := w.heap.size) (g := w.heap.size) rfl rfl (Blk.new _ _ _) (Nat.le_refl _) (by simp) (HS.out.ext (Ext.al _ _)) HL.out ?_)
    intro v1 w1 hown hext
    have HE := Lib.hid (show Ext w w1 from (Ext.al _ _).trans hext)
    go_wp2
    go_ret
    exact ⟨_, rfl, hown, HE.out⟩
@[go_sem] theorem eql59nil (w : World) (a : Option Addr) (n c : Nat) : (binOp .eql 59 (.slice a n c) (.slice none 0 0)).run Tryz.prog w = .ok (.bool a.isNone) w := Lib.run_eql_slice_nil w 59 186 a n c 0 0 Tryz.underlying59
theorem wpList_copyW {ops : Array Oper} {rest : List Oper} {o : Oper} {a : Act} {Q : Exit → Act → World → Prop} {W : World} (hgd : o.guard = none) (s x : Operand)
    (ho : o.op = .call { callee := .builtin .append, args := #[s, x], argTypes := #[59, 59] }) {base g : Nat} (hs : a.eval s = .slice (some ⟨g, 0, none⟩) 0 0) {v : Value} (hx : a.eval x = v)
    (hB : Blk W g 186 #[]) (hg : base ≤ g) (hW : base ≤ W.heap.size) {l : List Weigh} (hl : SlW W v l) (hlen : l.length ≤ 1000)
    (h : ∀ v' W', Own encW 186 4 W' base v' l → Ext W W' → wpList Tryz.prog ops Q rest (a.put o.dst v') W') : wpList Tryz.prog ops Q (o :: rest) a W := by
  obtain ⟨v', W', hr, h1, h2⟩ := run_copy (t := 59) (ty := o.type) (enc := encW) (sz := 4) Tryz.underlying59 info186x rfl (by decide) (by decide) (fun _ => rfl) hB hg hW hl hlen
  refine wpList_plain hgd fun K hK => ?_
  unfold Oper.wp execOp
  simp only [ho, resolve, invoke, builtin, Sem.run_bind, Sem.run_pure, Result.andThen_ok, List.map_toArray, List.map_cons, List.map_nil, hs, hx, hr]
  exact hK _ _ (h v' W' h1 h2)
theorem cloneW_any (v : Value) (l : List Weigh) (w : World) (hs : SlW w v l) (hlen : l.length ≤ 1000) :
    Calls Tryz.prog 116 #[v] w fun e w' => ∃ v', e = .returned v' ∧ Own encW 186 4 w' w.heap.size v' l ∧ Ext w w' := by
  have HS := Lib.hid hs
  have HL := Lib.hid hlen
  obtain ⟨A, n, c, rfl, hn, hlc, hcm⟩ := hs.form
  have HN := Lib.hid (show A.isNone = true → l = [] ∧ n = 0 from fun h => by
    obtain ⟨A', c', hv, _, _, hx⟩ := hs
    injection hv with e1 e2 e3
    subst e1 e3
    have hl0 : l = [] := by
      by_cases h0 : 0 < l.length
      · obtain ⟨_, _, h1, _⟩ := hx h0; rw [h1] at h; cases h
      · exact List.eq_nil_of_length_eq_zero (by omega)
    exact ⟨hl0, by rw [e2, hl0]; rfl⟩)
  clear hs hlen hn hlc hcm
  cases hN : A.isNone with
  | true =>
    obtain ⟨rfl, rfl⟩ := HN.out hN
    clear HS HL HN
    go_enter Tryz.func116, Tryz.ntmps116
    go_wp2
    go_ret
    exact ⟨_, rfl, Own.nil _ _, Ext.refl _⟩
  | false =>
    clear HN
    go_enter Tryz.func116, Tryz.ntmps116
    go_wp2_with (at_builtin; refine wpList_copyW rfl (.tmp 5) (.tmp 6) rfl (base := w.heap.size) (g := w.heap.size) rfl rfl (Blk.new _ _ _) (Nat.le_refl _) (by simp) (HS.out.ext (Ext.al _ _)) HL.out ?_)
    intro v1 w1 hown hext
    have HE := Lib.hid (show Ext w w1 from (Ext.al _ _).trans hext)
    go_wp2
    go_ret
    exact ⟨_, rfl, hown, HE.out⟩

/-- A slice that does not lie in block g. -/
def GoodS {α : Type} (enc : α → List Value) (g : Nat) (l : List α) (v : Value) (W : World) : Prop := Sl enc 4 W v l ∧ ∀ a n c b o, v = .slice a n c → a = some ⟨b, o, none⟩ → 0 < l.length → b ≠ g
theorem GoodS.ext {α : Type} {enc : α → List Value} {g : Nat} {l : List α} {v : Value} {W W' : World} (h : GoodS enc g l v W) (e : Ext W W') : GoodS enc g l v W' := ⟨h.1.ext e, h.2⟩
theorem GoodS.set {α : Type} {enc : α → List Value} {g i : Nat} {l : List α} {v : Value} {W : World} (h : GoodS enc g l v W) (u : Value) : GoodS enc g l v (W.setCell ⟨g, i, none⟩ u) := by
  obtain ⟨⟨a, c, hv, hl, hc, hx⟩, hf⟩ := h
  refine ⟨⟨a, c, hv, hl, hc, fun h0 => ?_⟩, hf⟩
  obtain ⟨b, off, hA, hb, hcell⟩ := hx h0
  exact ⟨b, off, hA, by simpa [World.setCell] using hb, fun k x hk j w hw => (World.cell?_of_block (a := ⟨b, _, none⟩) (Below.heap_setCell W ⟨g, i, none⟩ u b (hf a _ c b off hv hA h0))).trans (hcell k x hk j w hw)⟩
theorem GoodS.own {α : Type} {enc : α → List Value} {g base : Nat} {e : TypeId} {l : List α} {v : Value} {W : World} (henc : ∀ x, (enc x).length = 4) (h : Own enc e 4 W base v l) (hg : g < base) : GoodS enc g l v W := by
  refine ⟨Own.sl henc h, fun a n c b o hv ha _ => ?_⟩
  rcases h.2 with ⟨h2, _⟩ | ⟨g', cap', cur, e1, hb, _⟩
  · rw [hv] at h2; injection h2 with h2; rw [ha] at h2; cases h2
  · rw [hv] at e1; injection e1 with e1; rw [ha] at e1; injection e1 with e1; injection e1 with e1; omega
theorem GoodS.old {α : Type} {enc : α → List Value} {g : Nat} {l : List α} {v : Value} {w W : World} (h : Sl enc 4 w v l) (hg : w.heap.size ≤ g) (e : Ext w W) : GoodS enc g l v W := by
  refine ⟨h.ext e, fun a n c b o hv ha h0 => ?_⟩
  obtain ⟨a', c', hv', _, _, hx⟩ := h
  obtain ⟨b', off, hA, hb, _⟩ := hx h0
  rw [hv'] at hv
  injection hv with hv
  rw [← hv, hA] at ha
  injection ha with ha
  injection ha with ha
  omega
/-- Cell i of block g holds a fresh slice of l. -/
def FrC {α : Type} (enc : α → List Value) (e : TypeId) (base g i : Nat) (l : List α) (W : World) : Prop := ∃ v, W.cell? ⟨g, i, none⟩ = some v ∧ Own enc e 4 W base v l
theorem FrC.ext {α : Type} {enc : α → List Value} {e : TypeId} {base g i : Nat} {l : List α} {W W' : World} (h : FrC enc e base g i l W) (hE : Ext W W') : FrC enc e base g i l W' := by
  obtain ⟨v, h1, h2⟩ := h
  exact ⟨v, (hE.cells.1 _ _ (is_cells h1).1).trans h1, h2.ext hE⟩
def RD (b : Bale) (base g : Nat) (W W' : World) : Prop :=
  (∀ v, GoodS encD g b.draws v W → GoodS encD g b.draws v W') ∧ (∀ v, GoodS encW g b.weighs v W → GoodS encW g b.weighs v W') ∧ (∀ v, Own encD 134 4 W base v b.draws → Own encD 134 4 W' base v b.draws) ∧ (∀ v, Own encW 186 4 W base v b.weighs → Own encW 186 4 W' base v b.weighs) ∧
    (FrC encD 134 base g 4 b.draws W → FrC encD 134 base g 4 b.draws W') ∧ (FrC encW 186 base g 5 b.weighs W → FrC encW 186 base g 5 b.weighs W')
theorem RD.refl {b : Bale} {base g : Nat} (W : World) : RD b base g W W := ⟨fun _ h => h, fun _ h => h, fun _ h => h, fun _ h => h, fun h => h, fun h => h⟩
theorem RD.ext {b : Bale} {base g : Nat} {W W' : World} (e : Ext W W') : RD b base g W W' := ⟨fun _ h => h.ext e, fun _ h => h.ext e, fun _ h => h.ext e, fun _ h => h.ext e, fun h => h.ext e, fun h => h.ext e⟩
theorem RD.set4 {b : Bale} {base g : Nat} {W : World} {dx : Value} (hg : g < base) (hd : Own encD 134 4 W base dx b.draws) : RD b base g W (W.setCell ⟨g, 4, none⟩ dx) ∧ ((∃ u, W.cell? ⟨g, 4, none⟩ = some u) → FrC encD 134 base g 4 b.draws (W.setCell ⟨g, 4, none⟩ dx)) :=
  have key : (∃ u, W.cell? ⟨g, 4, none⟩ = some u) → FrC encD 134 base g 4 b.draws (W.setCell ⟨g, 4, none⟩ dx) := fun ⟨_, hu⟩ => ⟨dx, World.cell?_setCell_same (h := hu) .., hd.far hg _⟩
  ⟨⟨fun _ h => h.set _, fun _ h => h.set _, fun _ h => h.far hg _, fun _ h => h.far hg _, fun ⟨u, hu, _⟩ => key ⟨u, hu⟩, fun ⟨v, h1, h2⟩ => ⟨v, (World.cell?_setCell_other (h := by intro e; injection e with _ e _; omega) ..).trans h1, h2.far hg _⟩⟩, key⟩
theorem RD.set5 {b : Bale} {base g : Nat} {W : World} {wx : Value} (hg : g < base) (hd : Own encW 186 4 W base wx b.weighs) : RD b base g W (W.setCell ⟨g, 5, none⟩ wx) ∧ ((∃ u, W.cell? ⟨g, 5, none⟩ = some u) → FrC encW 186 base g 5 b.weighs (W.setCell ⟨g, 5, none⟩ wx)) :=
  have key : (∃ u, W.cell? ⟨g, 5, none⟩ = some u) → FrC encW 186 base g 5 b.weighs (W.setCell ⟨g, 5, none⟩ wx) := fun ⟨_, hu⟩ => ⟨wx, World.cell?_setCell_same (h := hu) .., hd.far hg _⟩
  ⟨⟨fun _ h => h.set _, fun _ h => h.set _, fun _ h => h.far hg _, fun _ h => h.far hg _, fun ⟨v, h1, h2⟩ => ⟨v, (World.cell?_setCell_other (h := by intro e; injection e with _ e _; omega) ..).trans h1, h2.far hg _⟩, fun ⟨u, hu, _⟩ => key ⟨u, hu⟩⟩, key⟩
/-- The world while a bale is copied: but for block g nothing has turned, and block g is the bale's. -/
def CD (b : Bale) (w : World) (g : Nat) (W : World) : Prop := w.grownBy W (some g) ∧ ∃ dx wx, Blk W g 61 #[.int .i64 b.id, .int .i64 b.layers, .int .i64 b.dry.lo, .int .i64 b.dry.hi, dx, wx] ∧ GoodS encD g b.draws dx W ∧ GoodS encW g b.weighs wx W
theorem CD.ext {b : Bale} {w : World} {g : Nat} {W W' : World} (h : CD b w g W) (e : Ext W W') : CD b w g W' := by
  obtain ⟨h1, dx, wx, h2, h3, h4⟩ := h
  exact ⟨grown_ext h1 e, dx, wx, h2.ext e, h3.ext e, h4.ext e⟩

end Go.Proofs.YtkpengeaolcjhaaGreatDoor
/- core.without: a bale without some draws and weighings. -/
namespace Go.Proofs.YtkpengeaolcjhaaGreatDoor
open Go.RowKit Go.Shelf Go.Lib
set_option maxRecDepth 100000
set_option linter.unusedSimpArgs false

theorem contains_any (l : List Int) (v : Value) (x : Int) (w : World) (hs : SlI w v l) :
    Calls Tryz.prog 114 #[v, .int .i64 x] w fun e w' => e = .returned (.bool (l.any fun y => decide (x = y))) ∧ Ext w w' := by
  have HS := Lib.hid hs
  obtain ⟨A, n, c, rfl, hn, hlc, hcm⟩ := hs.form
  have HI := Lib.hid (f84_any l x _ w HS.out)
  clear hs
  go_enter Tryz.func114, Tryz.ntmps114
  go_wp2_with fail
  refine HI.out.mono ?_
  rintro e w1 ⟨rfl, hE⟩
  have HE := Lib.hid hE; clear hE
  go_wp2
  go_ret
  exact ⟨ret_bool (idxF_any _ l), HE.out⟩

theorem own_heap {α : Type} {enc : α → List Value} {sz base : Nat} {e : TypeId} {w : World} {v : Value} {l : List α} (h : Own enc e sz w base v l) : ∀ g, v.ownBlock = some g → ∃ cur, w.heap[g]? = some (.cells cur e (0, 0)) := by
  intro g hg
  rcases h.2 with ⟨rfl, _⟩ | ⟨g', cap, cur, rfl, hb, hh, _⟩
  · cases hg
  · simp [Value.ownBlock] at hg
    subst hg
    exact ⟨cur, hh⟩
end Go.Proofs.YtkpengeaolcjhaaGreatDoor
/- Memory that a call makes itself; a range over a function; frames of which some slots are known: for the mill, beside core's texts (printed by genmlfr.py). -/
namespace Go.Proofs.YtkpengeaolcjhaaGreatDoor
open Go.RowKit Go.Shelf Go.Lib
set_option maxRecDepth 100000
set_option linter.unusedSimpArgs false


section
variable {w : World} {g : Nat} {t : TypeId} {a b c d e : Value}
theorem Blk.c1 (h : Blk w g t #[a]) : w.cell? ⟨g, 0, none⟩ = some a ∧ (∀ i, w.frozen? ⟨g, i, none⟩ = false) ∧ g < w.heap.size := ⟨by simpa using h.cell 0, h.frozen, h.lt⟩
theorem Blk.c2 (h : Blk w g t #[a, b]) : w.cell? ⟨g, 0, none⟩ = some a ∧ w.cell? ⟨g, 1, none⟩ = some b ∧ (∀ i, w.frozen? ⟨g, i, none⟩ = false) ∧ g < w.heap.size := ⟨by simpa using h.cell 0, by simpa using h.cell 1, h.frozen, h.lt⟩
theorem Blk.c3 (h : Blk w g t #[a, b, c]) : w.cell? ⟨g, 0, none⟩ = some a ∧ w.cell? ⟨g, 1, none⟩ = some b ∧ w.cell? ⟨g, 2, none⟩ = some c ∧ (∀ i, w.frozen? ⟨g, i, none⟩ = false) ∧ g < w.heap.size := ⟨by simpa using h.cell 0, by simpa using h.cell 1, by simpa using h.cell 2, h.frozen, h.lt⟩
theorem Blk.c4 (h : Blk w g t #[a, b, c, d]) : w.cell? ⟨g, 0, none⟩ = some a ∧ w.cell? ⟨g, 1, none⟩ = some b ∧ w.cell? ⟨g, 2, none⟩ = some c ∧ w.cell? ⟨g, 3, none⟩ = some d ∧ (∀ i, w.frozen? ⟨g, i, none⟩ = false) ∧ g < w.heap.size := ⟨by simpa using h.cell 0, by simpa using h.cell 1, by simpa using h.cell 2, by simpa using h.cell 3, h.frozen, h.lt⟩
theorem Blk.c5 (h : Blk w g t #[a, b, c, d, e]) : w.cell? ⟨g, 0, none⟩ = some a ∧ w.cell? ⟨g, 1, none⟩ = some b ∧ w.cell? ⟨g, 2, none⟩ = some c ∧ w.cell? ⟨g, 3, none⟩ = some d ∧ w.cell? ⟨g, 4, none⟩ = some e ∧ (∀ i, w.frozen? ⟨g, i, none⟩ = false) ∧ g < w.heap.size := ⟨by simpa using h.cell 0, by simpa using h.cell 1, by simpa using h.cell 2, by simpa using h.cell 3, by simpa using h.cell 4, h.frozen, h.lt⟩
end
/-- Nothing old has turned outside the blocks from lo on below hi. -/
structure Gap (lo hi : Nat) (w w' : World) : Prop where
  os : w'.os = w.os
  tape : w'.tape = w.tape
  output : w'.output = w.output
  size : w.heap.size ≤ w'.heap.size
  block : ∀ k, k < w.heap.size → (k < lo ∨ hi ≤ k) → w'.heap[k]? = w.heap[k]?
theorem Gap.refl (lo hi : Nat) (w : World) : Gap lo hi w w := ⟨rfl, rfl, rfl, Nat.le_refl _, fun _ _ _ => rfl⟩
theorem Gap.trans {lo hi : Nat} {a b c : World} (h : Gap lo hi a b) (k : Gap lo hi b c) : Gap lo hi a c :=
  ⟨k.os.trans h.os, k.tape.trans h.tape, k.output.trans h.output, Nat.le_trans h.size k.size, fun i hi hb => (k.block i (Nat.lt_of_lt_of_le hi h.size) hb).trans (h.block i hi hb)⟩
theorem Gap.setCell {lo hi : Nat} {a b : World} (h : Gap lo hi a b) {p : Addr} (h1 : lo ≤ p.block) (h2 : p.block < hi) (u : Value) : Gap lo hi a (b.setCell p u) :=
  ⟨h.os, h.tape, h.output, by simpa [World.setCell] using h.size, fun i hi hb => (Below.heap_setCell b p u i (by rintro rfl; omega)).trans (h.block i hi hb)⟩
theorem Gap.ext {lo hi : Nat} {w a b : World} (h : Gap lo hi a b) (e : Ext w a) (hl : w.heap.size ≤ lo) : Ext w b :=
  ⟨h.os.trans e.os, h.tape.trans e.tape, h.output.trans e.output, Nat.le_trans e.size h.size, fun i hi => (h.block i (Nat.lt_of_lt_of_le hi e.size) (.inl (by omega))).trans (e.block i hi)⟩
theorem Gap.blk {lo hi g : Nat} {a b : World} {t : TypeId} {cs : Array Value} (h : Gap lo hi a b) (hB : Blk a g t cs) (hg : g < lo ∨ hi ≤ g) : Blk b g t cs := (h.block g hB.lt hg).trans hB
theorem Gap.own {α : Type} {enc : α → List Value} {sz base lo hi : Nat} {e : TypeId} {a b : World} {v : Value} {l : List α} (h : Gap lo hi a b) (ho : Own enc e sz a base v l) (hb : hi ≤ base) : Own enc e sz b base v l := by
  obtain ⟨h1, h2⟩ := ho
  refine ⟨h1, ?_⟩
  rcases h2 with h2 | ⟨r, cap, cur, hv, hr, hh, rest⟩
  · exact Or.inl h2
  · exact Or.inr ⟨r, cap, cur, hv, hr, (h.block r (Array.getElem?_eq_some_iff.1 hh).1 (.inr (by omega))).trans hh, rest⟩
theorem own_top {α : Type} {enc : α → List Value} {sz base : Nat} {e : TypeId} {w : World} {v : Value} {l : List α} (h : Own enc e sz w base v l) : ∀ g, v.ownBlock = some g → g < w.heap.size := fun g hg => by
  obtain ⟨cur, hh⟩ := own_heap h g hg
  exact (Array.getElem?_eq_some_iff.1 hh).1


theorem own_formG {α : Type} {enc : α → List Value} {sz : Nat} {e : TypeId} {W : World} {base : Nat} {v : Value} {l : List α} (h : Own enc e sz W base v l) : (v = .slice none 0 0 ∧ l = []) ∨ ∃ g cap cur, v = .slice (some ⟨g, 0, none⟩) l.length cap ∧ base ≤ g ∧ W.heap[g]? = some (.cells cur e (0, 0)) ∧ l.length ≤ cap ∧ cap ≤ maxLen ∧ cur.size = cap * sz ∧ cur.toList.take (l.length * sz) = l.flatMap enc := by
  rcases h.2 with ⟨h1, h2⟩ | ⟨g, cap, cur, h1, h2, h3, h4, h5, h6, h7⟩
  · exact .inl ⟨h1, List.eq_nil_of_length_eq_zero h2⟩
  · exact .inr ⟨g, cap, cur, h1, h2, h3, h4, h5, h6, h7⟩
theorem row_set {α : Type} {enc : α → List Value} (henc : ∀ x, (enc x).length = 1) {x : α} {a : Value} (hx : enc x = [a]) : ∀ (l : List α) (i : Nat), i < l.length → (l.flatMap enc).set i a = (l.set i x).flatMap enc
  | y :: l, 0, _ => by
    obtain ⟨p, hy⟩ : ∃ p, enc y = [p] := by
      match h : enc y, henc y with
      | [p], _ => exact ⟨p, rfl⟩
    simp [hy, hx]
  | y :: l, i + 1, h => by
    have ih := row_set henc hx l i (by simpa using h)
    obtain ⟨p, hy⟩ : ∃ p, enc y = [p] := by
      match h : enc y, henc y with
      | [p], _ => exact ⟨p, rfl⟩
    rw [List.set_cons_succ, List.flatMap_cons, List.flatMap_cons, ← ih, hy]
    rfl
/-- One number is put into a row of the call's own. -/
theorem own_put1 {w : World} {base g n cap i : Nat} {e : TypeId} {m : List Int} {x : Int} (h : Own encI e 1 w base (.slice (some ⟨g, 0, none⟩) n cap) m) (hn : n = m.length) (hi : i < n) :
    Own encI e 1 (w.setCell ⟨g, i, none⟩ (.int .i64 x)) base (.slice (some ⟨g, 0, none⟩) n cap) (m.set i x) := by
  unfold Own at *
  rw [List.length_set, ← hn, ← row_set (enc := encI) (fun _ => rfl) rfl m i (by omega)]
  rw [← hn] at h
  exact own_cellset h
theorem Sl.keepG {α : Type} {enc : α → List Value} {sz n₀ : Nat} {X : Nat → Prop} {A B : World} {a : Option Addr} {n c : Nat} {l : List α} (h : Sl enc sz A (.slice a n c) l) (k : Keep n₀ X A B) (hx : 0 < l.length → ∀ b o, a = some ⟨b, o, none⟩ → ¬ X b) : Sl enc sz B (.slice a n c) l := by
  obtain ⟨a', c', hv, hl, hc, hcell⟩ := h
  injection hv with e1 e2 e3
  subst e1 e2 e3
  refine ⟨_, _, rfl, hl, hc, fun h0 => ?_⟩
  obtain ⟨b, off, hA, hb, hcell⟩ := hcell h0
  exact ⟨b, off, hA, Nat.lt_of_lt_of_le hb k.b.size, fun i x hi j u hu => k.cell (hx h0 _ _ hA) (hcell i x hi j u hu)⟩
theorem Keep.setCell {n₀ : Nat} {X : Nat → Prop} {A B : World} (h : Keep n₀ X A B) {p : Addr} (h1 : n₀ ≤ p.block) (h2 : X p.block) (u : Value) : Keep n₀ X A (B.setCell p u) :=
  ⟨h.b.setCell h1 u, fun k hk hx hc => (Below.heap_setCell B p u k (by rintro rfl; exact hx h2)).trans (h.c k hk hx hc)⟩

attribute [local go_sem] Oper.semAt_some

/-- **THE STATEMENT**, where the loop's variable may be laid in a box, and marks may lie ahead. -/
theorem wp_rangeFuncB {α : Type} {P : Program} {g : Operand} {p : Tmp} {assign body : Code} {Q : Exit → Act → World → Prop} {a : Act} {w : World} {gf : FuncId} {lb : Array Value} (hg : a.eval g = .func (.func gf) #[] lb)
    (eg : ∀ args w, (callFunc gf args).run P w = .ok (.enter gf args) w) {n₀ : Nat} {X : Nat → Prop} {H : α → Value → World → Prop} {xs : List α} {w0 : World} (hseq : Seqs P gf lb n₀ X H xs w0) (hE : Ext w0 w) (hn : n₀ ≤ w.heap.size)
    (I : List α → World → Prop) (Ix : Code → List α → World → Prop) (hI : ∀ pre A B, I pre A → w.heap.size + 1 < A.heap.size → Turn w.heap.size A B → I pre B) (hIx : ∀ c pre A B, Ix c pre A → w.heap.size + 1 < A.heap.size → Turn w.heap.size A B → Ix c pre B)
    (h0 : ∀ W, Ext w W → I [] W) (Ax : α → Value → Act → World → Prop) (hAx : ∀ x v A W W', Ax x v A W → w.heap.size + 1 < W.heap.size → Turn w.heap.size W W' → Ax x v A W')
    (hassign : ∀ (m l : Nat) (pre : List α) (x : α) (v : Value) (W : World) (K : Act → World → Prop), I pre W → H x v W → pre ++ [x] <+: xs → w.heap.size + 1 < W.heap.size → (∀ A W', Ext W W' → Ax x v A W' → K A W') → assign.wpIn (Fence.wide.inRound l) m P (Exit.then K (fun _ _ _ => False)) { tmps := a.tmps.setIfInBounds p v, defers := [] } W)
    (hbody : ∀ (m l : Nat) (pre : List α) (x : α) (v : Value) (A : Act) (W : World), I pre W → Ax x v A W → pre ++ [x] <+: xs → w.heap.size + 1 < W.heap.size → (∃ d, W.heap[w.heap.size]? = some (.deferred d)) → (∃ r, W.heap[w.heap.size + 1]? = some (.loop r)) → body.wpIn (Fence.wide.inRound l) m P (rPost n₀ X w.heap.size I Ix (pre ++ [x]) W) A W)
    (hdone : ∀ W, I xs W → w.heap.size + 1 < W.heap.size → W.heap[w.heap.size]? = some (.deferred (some [])) → Q .normal { a with defers := { target := .collected w.heap.size, args := #[] } :: a.defers } W)
    (hstop : ∀ c pre W, pre <+: xs → Ix c pre W → w.heap.size + 1 < W.heap.size → W.heap[w.heap.size]? = some (.deferred (some [])) → c.wp P Q { a with defers := { target := .collected w.heap.size, args := #[] } :: a.defers } W) :
    (Code.rangeFunc g #[p] assign body).wp P Q a w := by
  refine (wpIn_wide (n := 0)).1 (wpIn_rangeFunc ?_)
  intro fn _
  obtain ⟨rec, hrec⟩ : ∃ rec : LoopState → Option Code → Loop, rec = fun st pe => { state := st, pending := pe, fn, tmps := a.tmps, params := #[p], assign, body, defers := w.heap.size } := ⟨_, rfl⟩
  generalize hW1 : (w.alloc (.deferred (some []))).alloc (.loop (rec .ready none)) = W1
  have hE1 : Ext w W1 := by rw [← hW1]; exact (Ext.al _ _).alloc _
  have hL1 : W1.heap[w.heap.size + 1]? = some (.loop (rec .ready none)) := by
    rw [← hW1]; have := World.alloc_heap_new (w.alloc (.deferred (some []))) (.loop (rec .ready none)); rwa [World.size_alloc] at this
  have hK1 : W1.heap[w.heap.size]? = some (.deferred (some [])) := by
    rw [← hW1]; exact (Below.heap_alloc _ _ _ (by simp)).trans (World.alloc_heap_new w _)
  have lt_of : ∀ {W : World} {o : Obj}, W.heap[w.heap.size + 1]? = some o → w.heap.size + 1 < W.heap.size := fun h => (Array.getElem?_eq_some_iff.1 h).1
  refine ⟨w.heap.size + 1, [{ target := .collected w.heap.size, args := #[] }], W1, { target := .fn (.func gf) lb, args := #[.func (.yield (w.heap.size + 1)) #[] #[]] }, W1, gf, #[.func (.yield (w.heap.size + 1)) #[] #[]] ++ lb, W1, ?_, ?_, fun _ _ => trivial, ?_, wide_depth _, ?_⟩
  · rw [wide_none, ← hW1, hrec]; exact run_enterLoop_outer _ _ _ _ _
  · simp only [resolve, hg]
    simp [go_sem]
  · simp [invoke, go_sem, eg]
  refine callsIn_wide.2 ((hseq (w.heap.size + 1)
    (fun pre W => I pre W ∧ W.heap[w.heap.size + 1]? = some (.loop (rec .ready none)) ∧ W.heap[w.heap.size]? = some (.deferred (some [])))
    (fun pre W => ∃ c, Ix c pre W ∧ W.heap[w.heap.size + 1]? = some (.loop (rec .done (some c))) ∧ W.heap[w.heap.size]? = some (.deferred (some [])))
    W1 (hE.trans hE1) ?_ ?_ ?_ ⟨h0 _ hE1, hL1, hK1⟩).mono ?_)
  · rintro pre A B ⟨h1, h2, h3⟩ hAB
    have hl := lt_of h2
    exact ⟨hI _ _ _ h1 hl (Turn.ext hAB), (hAB.block _ hl).trans h2, (hAB.block _ (by omega)).trans h3⟩
  · rintro pre A B ⟨c, h1, h2, h3⟩ hAB
    have hl := lt_of h2
    exact ⟨c, hIx _ _ _ _ h1 hl (Turn.ext hAB), (hAB.block _ hl).trans h2, (hAB.block _ (by omega)).trans h3⟩
  · rintro m pre x v W ⟨hi, hl, hk⟩ hx hpre
    have hlt := lt_of hl
    have hy := run_yield (P := P) (args := #[v]) hl (by rw [hrec]; rfl)
    refine ⟨fn, a.tmps.setIfInBounds p v, assign, body, by rw [hy, hrec]; simp, roundIn_of_wpIn trivial ?_⟩
    have fin : ∀ (jump : Option Code) (W3 : World), W3.heap[w.heap.size + 1]? = some (.loop { rec .ready none with state := .busy }) → W3.heap[w.heap.size]? = some (.deferred (some [])) →
        (Instr.endRound (w.heap.size + 1) jump).run P W3 = .ok (.bool jump.isNone) (W3.putObj (w.heap.size + 1) (.loop (rec (if jump.isNone then .ready else .done) jump))) ∧
        (W3.putObj (w.heap.size + 1) (.loop (rec (if jump.isNone then .ready else .done) jump))).heap[w.heap.size + 1]? = some (.loop (rec (if jump.isNone then .ready else .done) jump)) ∧
        (W3.putObj (w.heap.size + 1) (.loop (rec (if jump.isNone then .ready else .done) jump))).heap[w.heap.size]? = some (.deferred (some [])) := fun jump W3 h1 h2 => by
      have := run_endRound (P := P) jump h1
      rw [hrec] at this ⊢
      exact ⟨this, World.putObj_heap_same (lt_of h1), (World.putObj_heap_other (by omega)).trans h2⟩
    refine hassign m (w.heap.size + 1) pre x v W _ hi hx hpre hlt fun A V hEV hAV => ?_
    have hlV := (hEV.block _ hlt).trans hl
    have hkV := (hEV.block _ (by omega)).trans hk
    have hltV := lt_of hlV
    have hb2 : (V.putObj (w.heap.size + 1) (.loop { rec .ready none with state := .busy })).heap[w.heap.size + 1]? = some (.loop { rec .ready none with state := .busy }) := World.putObj_heap_same hltV
    have hd2 : (V.putObj (w.heap.size + 1) (.loop { rec .ready none with state := .busy })).heap[w.heap.size]? = some (.deferred (some [])) := (World.putObj_heap_other (by omega)).trans hkV
    refine ⟨_, run_beginRound hlV (by rw [hrec]), wpIn_mono (hbody m _ pre x v A _ (hI _ _ _ (hI _ _ _ hi hlt (Turn.ext hEV)) hltV (Turn.put _ _)) (hAx _ _ _ _ _ hAV hltV (Turn.put _ _)) hpre (by rw [World.putObj_size]; exact hltV) ⟨_, hd2⟩ ⟨_, hb2⟩) ?_⟩
    rintro e a3 W3 hp
    cases e with
    | normal =>
      obtain ⟨hk3, hd3, hl3, hi3⟩ := hp
      rw [hb2] at hl3; rw [hd2] at hd3
      obtain ⟨hr, hl4, hd4⟩ := fin none W3 hl3 hd3
      exact ⟨_, _, hr, .inl ⟨rfl, ⟨hI _ _ _ hi3 (lt_of hl3) (Turn.put _ _), hl4, hd4⟩, (((Keep.ext hEV (by omega)).trans (keep_put hlV hn)).trans hk3).trans (keep_put hl3 hn)⟩⟩
    | ret =>
      obtain ⟨hd3, hl3, hi3⟩ := hp
      rw [hb2] at hl3; rw [hd2] at hd3
      obtain ⟨hr, hl4, hd4⟩ := fin (some .ret) W3 hl3 hd3
      exact ⟨_, _, hr, .inr ⟨rfl, .ret, hIx _ _ _ _ hi3 (lt_of hl3) (Turn.put _ _), hl4, hd4⟩⟩
    | exit id =>
      obtain ⟨hd3, hl3, hi3⟩ := hp
      rw [hb2] at hl3; rw [hd2] at hd3
      obtain ⟨hr, hl4, hd4⟩ := fin (some (.exit id)) W3 hl3 hd3
      exact ⟨_, _, hr, .inr ⟨rfl, .exit id, hIx _ _ _ _ hi3 (lt_of hl3) (Turn.put _ _), hl4, hd4⟩⟩
    | goto t =>
      obtain ⟨hd3, hl3, hi3⟩ := hp
      rw [hb2] at hl3; rw [hd2] at hd3
      obtain ⟨hr, hl4, hd4⟩ := fin (some (.goto t)) W3 hl3 hd3
      exact ⟨_, _, hr, .inr ⟨rfl, .goto t, hIx _ _ _ _ hi3 (lt_of hl3) (Turn.put _ _), hl4, hd4⟩⟩
    | panic ch => exact hp.elim
    | outgrown => exact hp.elim
  · rintro e W2 ⟨⟨v, rfl⟩, (⟨hi, hl, hk⟩ | ⟨pre, hpre, c, hi, hl, hk⟩)⟩
    · refine ⟨none, _, by have := run_endLoop (P := P) hl (by rw [hrec]; simp); rw [hrec] at this; exact this, ?_⟩
      exact hdone _ (hI _ _ _ hi (lt_of hl) (Turn.put _ _)) (by rw [World.putObj_size]; exact lt_of hl) ((World.putObj_heap_other (by omega)).trans hk)
    · refine ⟨some c, _, by have := run_endLoop (P := P) hl (by rw [hrec]; simp); rw [hrec] at this; exact this, ?_⟩
      exact wpIn_wide.2 (hstop c pre _ hpre (hIx _ _ _ _ hi (lt_of hl) (Turn.put _ _)) (by rw [World.putObj_size]; exact lt_of hl) ((World.putObj_heap_other (by omega)).trans hk))

/-- Marks: blocks from B on that hold no deferred calls, each once. -/
def Marks (B : Nat) (W : World) : List Deferred → Prop
  | [] => True
  | d :: ds => (∃ r, d = { target := .collected r, args := #[] } ∧ B ≤ r ∧ W.heap[r]? = some (.deferred (some []))) ∧ (∀ e ∈ ds, e ≠ d) ∧ Marks B W ds
theorem Marks.same {B : Nat} {W W' : World} (h : ∀ (r : Nat) (l : Option (List Deferred)), W.heap[r]? = some (Obj.deferred l) → W'.heap[r]? = some (Obj.deferred l)) : ∀ {ds : List Deferred}, Marks B W ds → Marks B W' ds
  | [], _ => trivial
  | _ :: _, ⟨⟨r, h1, hB, h2⟩, h3, h4⟩ => ⟨⟨r, h1, hB, h _ _ h2⟩, h3, Marks.same h h4⟩
theorem Marks.ext {B : Nat} {W W' : World} {ds : List Deferred} (h : Marks B W ds) (e : Ext W W') : Marks B W' ds := Marks.same (fun r _ hr => (e.block r (Array.getElem?_eq_some_iff.1 hr).1).trans hr) h
theorem Marks.setCell {B : Nat} {W : World} {ds : List Deferred} (h : Marks B W ds) {p : Addr} (hp : ∃ c t f, W.heap[p.block]? = some (.cells c t f)) (u : Value) : Marks B (W.setCell p u) ds :=
  Marks.same (fun r _ hr => (Below.heap_setCell W p u r (by rintro rfl; obtain ⟨c, t, f, hc⟩ := hp; rw [hc] at hr; cases hr)).trans hr) h
theorem Marks.turn {B s : Nat} {W W' : World} : ∀ {ds : List Deferred}, Marks B W ds → Turn s W W' → W.heap.size ≤ s → Marks B W' ds
  | [], _, _, _ => trivial
  | _ :: _, ⟨⟨r, h1, hB, h2⟩, h3, h4⟩, hT, hs => ⟨⟨r, h1, hB, by have := (Array.getElem?_eq_some_iff.1 h2).1; exact (hT.block r this (by omega) (by omega)).trans h2⟩, h3, Marks.turn h4 hT hs⟩
theorem Marks.lt {B : Nat} {W : World} : ∀ {ds : List Deferred}, Marks B W ds → ∀ d ∈ ds, ∃ r, d = { target := .collected r, args := #[] } ∧ r < W.heap.size
  | _ :: _, ⟨⟨r, h1, _, h2⟩, _, h4⟩, d, hd => by
    rcases List.mem_cons.1 hd with rfl | hd
    · exact ⟨r, h1, (Array.getElem?_eq_some_iff.1 h2).1⟩
    · exact Marks.lt h4 d hd
/-- One mark more, of a block that was not there. -/
theorem Marks.more {B : Nat} {W W' : World} {ds : List Deferred} (h : Marks B W ds) {s : Nat} (hB : B ≤ s) (hs : W.heap.size ≤ s) (h' : Marks B W' ds) (hd : W'.heap[s]? = some (.deferred (some []))) : Marks B W' ({ target := .collected s, args := #[] } :: ds) :=
  ⟨⟨s, rfl, hB, hd⟩, fun e he => by
    obtain ⟨r, h1, h2⟩ := h.lt e he
    rw [h1]
    intro e2
    injection e2 with e2 _
    injection e2 with e2
    omega, h'⟩
/-- What the marks' taking turns. -/
structure Taken (B : Nat) (W W' : World) : Prop where
  os : W'.os = W.os
  tape : W'.tape = W.tape
  output : W'.output = W.output
  size : W'.heap.size = W.heap.size
  block : ∀ (k : Nat), (k < B ∨ ∀ l : Option (List Deferred), W.heap[k]? ≠ some (Obj.deferred l)) → W'.heap[k]? = W.heap[k]?
theorem Taken.blk {B : Nat} {W W' : World} (h : Taken B W W') {g : Nat} {t : TypeId} {cs : Array Value} (hB : Blk W g t cs) : Blk W' g t cs :=
  (h.block g (.inr fun l e => by unfold Blk at hB; rw [hB] at e; cases e)).trans hB
theorem Taken.below {B : Nat} {w W W' : World} (h : Taken B W W') (hb : Below B w W) : Below B w W' :=
  ⟨h.os.trans hb.os, h.tape.trans hb.tape, h.output.trans hb.output, by rw [h.size]; exact hb.size, fun i hi => (h.block i (.inl hi)).trans (hb.block i hi)⟩
/-- A frame of m slots; what some of them hold. -/
structure Fr (m : Nat) (L : List (Nat × Value)) (ds : List Deferred) (A : Act) : Prop where
  size : A.tmps.size = m
  ds : A.defers = ds
  at_ : ∀ p ∈ L, A.eval (.tmp p.1) = p.2
def lst (ρ : Nat → Value) : Nat → Nat → List Value
  | _, 0 => []
  | s, k + 1 => ρ s :: lst ρ (s + 1) k
theorem lst_evs (A : Act) : ∀ (k s : Nat), lst (fun i => A.eval (.tmp i)) s k = evs A.eval s k
  | 0, _ => rfl
  | k + 1, s => by rw [lst, evs, lst_evs A k]
theorem Fr.open_ {m : Nat} {L : List (Nat × Value)} {ds : List Deferred} {A : Act} (h : Fr m L ds A) : ∃ ρ : Nat → Value, A = { tmps := (lst ρ 0 m).toArray, defers := ds } ∧ ∀ p ∈ L, ρ p.1 = p.2 :=
  ⟨fun i => A.eval (.tmp i), by rw [lst_evs, ← h.ds]; exact frame_lit h.size, h.at_⟩
theorem Marks.grown {B g : Nat} {W W' : World} {ds : List Deferred} (h : Marks B W ds) (k : W.grownBy W' (some g)) (hg : ∀ l, W.heap[g]? ≠ some (Obj.deferred l)) : Marks B W' ds :=
  Marks.same (fun r l hr => (k.block r (Array.getElem?_eq_some_iff.1 hr).1 (by intro e; injection e with e; subst e; exact hg l hr)).trans hr) h
theorem Sl.single {α : Type} {enc : α → List Value} {sz : Nat} {W : World} {b c : Nat} {e : TypeId} {x : α} (h : Blk W b e (enc x).toArray) (h1 : 1 ≤ c) (hc : c ≤ maxLen) : Sl enc sz W (.slice (some ⟨b, 0, none⟩) 1 c) [x] := by
  refine ⟨_, c, rfl, h1, hc, fun _ => ⟨b, 0, rfl, h.lt, fun k y hk j w hw => ?_⟩⟩
  cases k with
  | zero =>
    simp at hk
    subst hk
    have := h.cell j
    rw [show 0 + 0 * sz + j = j by omega, this]
    simpa using hw
  | succ k => simp at hk
def OneF {α : Type} (enc : α → List Value) (e : TypeId) (x : α) (v : Value) (W : World) : Prop := ∃ g, v = .slice (some ⟨g, 0, none⟩) 1 1 ∧ Blk W g e (enc x).toArray
--DD
theorem take_over {β : Type} (cur X Z : List β) (h : X <+: Z ∨ Z <+: X) (hz : cur.take Z.length = Z) : (X ++ cur.drop X.length).take Z.length = Z := by
  rcases h with ⟨r, rfl⟩ | ⟨r, rfl⟩
  · have h2 : (cur.drop X.length).take r.length = r := by
      have : (cur.take (X ++ r).length).drop X.length = r := by rw [hz]; simp
      rw [List.drop_take] at this
      simpa using this
    rw [List.length_append, List.take_append, List.take_of_length_le (by omega), Nat.add_sub_cancel_left, h2]
  · simp
theorem flat_prefix {α β : Type} (enc : α → List β) {a b : List α} (h : a <+: b) : a.flatMap enc <+: b.flatMap enc := by
  obtain ⟨r, rfl⟩ := h
  rw [List.flatMap_append]
  exact List.prefix_append _ _

/-- A slice in new memory, without room if it is empty. -/
def NewF {α : Type} (enc : α → List Value) (sz : Nat) (e : TypeId) (base : Nat) (p : List α) (v : Value) (W : World) : Prop := Own enc e sz W base v p ∧ ∃ A c, v = .slice A p.length c ∧ (p.length = 0 → c = 0)
def RF {α : Type} (enc : α → List Value) (sz : Nat) (e : TypeId) (base : Nat) (F : List α) (y : α) (W W' : World) : Prop :=
  W.heap.size ≤ W'.heap.size ∧ (∀ z, z <+: F → ∀ v, Own enc e sz W base v z → Own enc e sz W' base v z) ∧ (∀ b, Blk W b e (enc y).toArray → Blk W' b e (enc y).toArray) ∧ ∀ b, Blk W b e #[] → Blk W' b e #[]
theorem RF.refl {α : Type} {enc : α → List Value} {sz : Nat} {e : TypeId} {base : Nat} {F : List α} {y : α} (W : World) : RF enc sz e base F y W W := ⟨Nat.le_refl _, fun _ _ _ h => h, fun _ h => h, fun _ h => h⟩
theorem RF.ext {α : Type} {enc : α → List Value} {sz : Nat} {e : TypeId} {base : Nat} {F : List α} {y : α} {W W' : World} (h : Ext W W') : RF enc sz e base F y W W' := ⟨h.size, fun _ _ _ k => k.ext h, fun _ k => k.ext h, fun _ k => k.ext h⟩

theorem run_appF {α : Type} {enc : α → List Value} {t ty e : TypeId} {sz : Nat} {z : Value} {bytes : Nat} (ht : Tryz.prog.underlying t = some (.slice e))
    (hinfo : (Tryz.prog.info? e).map (fun i => (i.zero, i.size, i.bytes)) = some (some z, sz, bytes)) (hzs : z.cells.size = sz) (hsz : 0 < sz) (hbytes : bytes ≤ 1000) (henc : ∀ x, (enc x).length = sz) (h1c : ∀ x, ∀ u ∈ enc x, u.oneCell' = true)
    {W : World} {base : Nat} {v x : Value} {F p m : List α} {y : α} (hv : NewF enc sz e base p v W) (hpm : p ++ m <+: F) (hF : F.length ≤ 1000) (hb : base ≤ W.heap.size) (hx : Sl enc sz W x m) :
    ∃ v' W', (Builtin.append_ #[t, t] ty #[v, x]).run Tryz.prog W = .ok v' W' ∧ NewF enc sz e base (p ++ m) v' W' ∧ RF enc sz e base F y W W' ∧ Below base W W' := by
  obtain ⟨i0, hi, hz0, hz1, hz2⟩ := info_parts hinfo
  obtain ⟨hown, A, c0, hv0, hc0⟩ := id hv
  have hpl := hpm.length_le
  rw [List.length_append] at hpl
  by_cases h0 : m.length = 0
  · have : m = [] := List.eq_nil_of_length_eq_zero h0
    subst this
    obtain ⟨A2, c2, rfl, _, _, _⟩ := hx
    obtain ⟨A3, n3, c3, e3, _, hlc, _⟩ := (Own.sl henc hown : Sl enc sz W v p).form
    have hrun := run_append_nothing (P := Tryz.prog) W t t ty e i0 ht hi A p.length c0 (by rw [hv0] at e3; injection e3 with _ e4 e5; omega) (.slice A2 0 c2)
      ⟨.inl ⟨e, ht⟩, fun _ => by simp [Builtin.lenOf], by cases A2 <;> simp [Builtin.firstCells, loadCells, loadCellsFrom], by cases A2 <;> simp [Builtin.firstCells, loadCells, loadCellsFrom], by simp, by simp⟩
    rw [← hv0] at hrun
    refine ⟨_, _, hrun, ?_, RF.refl _, Below.refl _ _⟩
    rw [List.append_nil]
    exact hv
  · obtain ⟨A2, c, rfl, hlc2, hcm2, hcell⟩ := id hx
    obtain ⟨b, off, rfl, hbb, _⟩ := hcell (by omega)
    clear hcell
    have hnews := Sl.flat henc hsz hx
    have hml := enc_len henc m
    have h1' : ∀ u ∈ m.flatMap enc, u.oneCell' = true := fun u hu => by
      obtain ⟨q, _, hq⟩ := List.mem_flatMap.1 hu
      exact h1c q u hq
    have hby : (p.length + m.length) * bytes ≤ 1000 * 1000 := Nat.mul_le_mul (by omega) hbytes
    obtain ⟨v', W', hr, h1, h2, _⟩ := run_append_own (P := Tryz.prog) W base t ty e i0 z sz bytes ht hi hz0 hz1 hz2 hzs hsz v p.length (p.flatMap enc) hown ⟨b, off, none⟩ m.length c (m.flatMap enc) hml hnews h1' (by unfold maxLen; omega) (by omega) hb
    have h1o : Own enc e sz W' base v' (p ++ m) := by unfold Own; rw [List.length_append, List.flatMap_append]; exact h1
    have hn' : NewF enc sz e base (p ++ m) v' W' := by
      obtain ⟨A4, n4, c4, e4, hn4, _, _⟩ := (Own.sl henc h1o : Sl enc sz W' v' (p ++ m)).form
      exact ⟨h1o, A4, c4, by rw [e4, hn4], fun h => by rw [List.length_append] at h; omega⟩
    refine ⟨v', W', hr, hn', ?_, (Below.refl base W).grown h2 hb (fun k hk => (World.ownsRow.lt hown k hk).1)⟩
    rcases id hown.2 with ⟨rfl, hp0⟩ | ⟨g, cap, cur, rfl, hg, hgg, hlc, hcm, hcs, htake⟩
    · have hE : Ext W W' := ⟨h2.os, h2.tape, h2.output, h2.size, fun i hi => h2.block i hi (by simp [Value.ownBlock])⟩
      exact RF.ext hE
    · have hpf := enc_len henc p
      by_cases hroom : p.length + m.length ≤ cap
      · have hl0 : p.length ≠ 0 := fun h => by
          injection hv0 with _ _ e3
          have := hc0 h
          omega
        have hmul : (p.length + m.length) * sz ≤ cap * sz := Nat.mul_le_mul_right _ hroom
        rw [Nat.add_mul] at hmul
        have hr2 := run_append_room (P := Tryz.prog) W t ty e i0 ht hi g p.length cap cur hgg ⟨b, off, none⟩ m.length c (m.flatMap enc) (by rw [hz1]; exact hml) hnews h1' (by exact hroom) (by rw [hz1, hcs, hml]; exact hmul)
        rw [hr] at hr2
        injection hr2 with hv' hW'
        rw [hz1, htake] at hW'
        have hX : ((p ++ m).flatMap enc).length = p.length * sz + (m.flatMap enc).length := by rw [List.flatMap_append, List.length_append, hpf]
        rw [← hX, ← List.flatMap_append] at hW'
        have hgW : W'.heap[g]? = some (.cells ((p ++ m).flatMap enc ++ cur.toList.drop ((p ++ m).flatMap enc).length).toArray e (0, 0)) := by
          rw [hW']; exact setRow_heap W g cur _ e _ hgg
        have hsz' : ((p ++ m).flatMap enc ++ cur.toList.drop ((p ++ m).flatMap enc).length).toArray.size = cap * sz := by
          simp only [List.size_toArray, List.length_append, List.length_drop, Array.length_toList, hcs]
          rw [hX, hml]; omega
        have hoth : ∀ k, k ≠ g → W'.heap[k]? = W.heap[k]? := fun k hk => by rw [hW']; exact setRow_other W g k _ hk
        have hne : ∀ b2 cs, Blk W b2 e cs → cs.size ≤ sz → b2 ≠ g := by
          intro b2 cs hB hs he
          subst he
          unfold Blk at hB
          rw [hgg] at hB
          injection hB with hB
          injection hB with e1 _ _
          rw [← e1, hcs] at hs
          have : cap ≤ 1 := Nat.le_of_mul_le_mul_right (by omega) hsz
          omega
        refine ⟨h2.size, fun z' hz v2 ho => ?_, fun b2 hB => (hoth b2 (hne b2 _ hB (by simp [henc]))).trans hB, fun b2 hB => (hoth b2 (hne b2 _ hB (by simp))).trans hB⟩
        rcases id ho.2 with ⟨rfl, hn⟩ | ⟨g2, cap2, cur2, rfl, hg2, hgg2, hlc2, hcm2, hcs2, ht2⟩
        · exact ⟨ho.1, .inl ⟨rfl, hn⟩⟩
        · refine ⟨ho.1, .inr ?_⟩
          by_cases he : g2 = g
          · subst he
            rw [hgg] at hgg2
            injection hgg2 with hgg2
            injection hgg2 with e1 _ _
            subst e1
            refine ⟨g2, cap2, _, rfl, hg2, hgW, hlc2, hcm2, by rw [hsz']; omega, ?_⟩
            have := take_over cur.toList ((p ++ m).flatMap enc) (z'.flatMap enc) ((List.prefix_or_prefix_of_prefix hpm hz).imp (flat_prefix enc) (flat_prefix enc)) (by rw [enc_len henc]; exact ht2)
            rw [enc_len henc z'] at this
            exact this
          · exact ⟨g2, cap2, cur2, rfl, hg2, (hoth g2 he).trans hgg2, hlc2, hcm2, by omega, ht2⟩
      · have holds : ∀ j u, (p.flatMap enc)[j]? = some u → W.cell? ((⟨g, 0, none⟩ : Addr).add j) = some u := World.ownsRow.cells hown (g := g) rfl
        have hr2 := run_append_grow (P := Tryz.prog) W t ty e i0 z ht hi hz0 ⟨g, 0, none⟩ p.length cap (p.flatMap enc) (by rw [hz1]; exact hpf) holds ⟨b, off, none⟩ m.length c (m.flatMap enc) (by rw [hz1]; exact hml) hnews (by omega) (by omega) (growslice_fits (by omega) (by rw [hz2]; omega))
        rw [hr] at hr2
        injection hr2 with hv' hW'
        subst hW'
        exact RF.ext ((Ext.refl W).drew.alloc _)



/-- Rows of other types stay. -/
def OffX (e : TypeId) (W W' : World) : Prop := ∀ b e' cs, e' ≠ e → Blk W b e' cs → Blk W' b e' cs
theorem OffX.ext {e : TypeId} {W W' : World} (h : Ext W W') : OffX e W W' := fun _ _ _ _ k => k.ext h
theorem OffX.grown {α : Type} {enc : α → List Value} {e : TypeId} {sz base : Nat} {v : Value} {l : List α} {W W' : World} (h : Own enc e sz W base v l) (hg : W.grownBy W' v.ownBlock) : OffX e W W' := by
  intro b e' cs ne hB
  refine hB.grown hg ?_
  rcases h.2 with ⟨rfl, _⟩ | ⟨g, cap, cur, rfl, _, hh, _⟩
  · simp [Value.ownBlock]
  · intro he
    have : b = g := by simpa [Value.ownBlock] using he
    subst this
    unfold Blk at hB
    rw [hh] at hB
    injection hB with hB
    injection hB with _ e2 _
    exact ne e2.symm
theorem Own.offX {α : Type} {enc : α → List Value} {e e' : TypeId} {sz base : Nat} {v : Value} {l : List α} {W W' : World} (h : Own enc e' sz W base v l) (k : OffX e W W') (ne : e' ≠ e) : Own enc e' sz W' base v l := by
  refine ⟨h.1, ?_⟩
  rcases h.2 with h2 | ⟨g, cap, cur, e1, hb, hg, h5⟩
  · exact .inl h2
  · exact .inr ⟨g, cap, cur, e1, hb, k g e' cur ne hg, h5⟩
theorem run_appO {α : Type} {enc : α → List Value} {t ty e : TypeId} {sz : Nat} {z : Value} {bytes : Nat} (ht : Tryz.prog.underlying t = some (.slice e))
    (hinfo : (Tryz.prog.info? e).map (fun i => (i.zero, i.size, i.bytes)) = some (some z, sz, bytes)) (hzs : z.cells.size = sz) (hsz : 0 < sz) (hbytes : bytes ≤ 1000) (henc : ∀ x, (enc x).length = sz) (h1c : ∀ x, ∀ u ∈ enc x, u.oneCell' = true)
    {W : World} {base : Nat} {v x : Value} {l : List α} {y : α} (hv : NewF enc sz e base l v W) (hF : l.length < 1000) (hb : base ≤ W.heap.size) (hx : OneF enc e y x W) :
    ∃ v' W', (Builtin.append_ #[t, t] ty #[v, x]).run Tryz.prog W = .ok v' W' ∧ NewF enc sz e base (l ++ [y]) v' W' ∧ RF enc sz e base (l ++ [y]) y W W' ∧ Below base W W' ∧ OffX e W W' := by
  obtain ⟨b, rfl, hB⟩ := hx
  have hs : Sl enc sz W (.slice (some ⟨b, 0, none⟩) 1 1) [y] := Sl.single hB (Nat.le_refl _) (by decide)
  obtain ⟨v', W', hr, k1, k2, k3⟩ := run_appF (t := t) (ty := ty) (enc := enc) (sz := sz) (p := l) (m := [y]) (y := y) (F := l ++ [y]) ht hinfo hzs hsz hbytes henc h1c hv (List.prefix_refl _) (by rw [List.length_append]; simp; omega) hb hs
  refine ⟨v', W', hr, k1, k2, k3, ?_⟩
  obtain ⟨i0, hi, hz0, hz1, hz2⟩ := info_parts hinfo
  have hby : (l.length + 1) * bytes ≤ 1000 * 1000 := Nat.mul_le_mul (by omega) hbytes
  obtain ⟨v2, W2, hr2, -, h2, -⟩ := run_append_own (P := Tryz.prog) W base t ty e i0 z sz bytes ht hi hz0 hz1 hz2 hzs hsz v l.length (l.flatMap enc) hv.1 ⟨b, 0, none⟩ 1 1 ([y].flatMap enc) (by simp [henc]) (Sl.flat henc hsz hs) (fun u hu => by
    obtain ⟨q, _, hq⟩ := List.mem_flatMap.1 hu
    exact h1c q u hq) (by unfold maxLen; omega) (by omega) hb
  rw [hr] at hr2
  injection hr2 with _ e2
  subst e2
  exact OffX.grown hv.1 h2

end Go.Proofs.YtkpengeaolcjhaaGreatDoor
