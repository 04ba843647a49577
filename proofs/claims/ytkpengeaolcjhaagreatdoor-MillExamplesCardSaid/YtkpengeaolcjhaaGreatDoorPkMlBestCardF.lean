/- Copying by append onto an empty slice. -/
import Derived.Test.YtkpengeaolcjhaaGreatDoorPkMlBestCardB
import Derived.Deep.Upon
import Derived.Test.YtkpengeaolcjhaaGreatDoorPkMlBestCardA
import Derived.WalkMore
import Derived.RegionTactic
namespace Go.Proofs.YtkpengeaolcjhaaGreatDoor
open Go.RowKit Go.Shelf Go.Lib

theorem Own.new {α : Type} {enc : α → List Value} {e : TypeId} {sz : Nat} {W : World} {base g : Nat} (h : Blk W g e #[]) (hb : base ≤ g) : Own enc e sz W base (.slice (some ⟨g, 0, none⟩) 0 0) ([] : List α) :=
  ⟨by simp, .inr ⟨g, 0, #[], rfl, hb, h, Nat.le_refl _, by decide, by simp, by simp⟩⟩
theorem enc_len {α : Type} {enc : α → List Value} {sz : Nat} (henc : ∀ x, (enc x).length = sz) : ∀ l : List α, (l.flatMap enc).length = l.length * sz
  | [] => by simp
  | x :: l => by rw [List.flatMap_cons, List.length_append, henc, enc_len henc l, List.length_cons, Nat.succ_mul, Nat.add_comm]
theorem flat_at {α : Type} {enc : α → List Value} {sz : Nat} (henc : ∀ x, (enc x).length = sz) (hsz : 0 < sz) : ∀ (l : List α) (j : Nat) (u : Value), (l.flatMap enc)[j]? = some u → ∃ x, l[j / sz]? = some x ∧ (enc x)[j % sz]? = some u
  | [], j, u, h => by simp at h
  | x :: l, j, u, h => by
    rw [List.flatMap_cons] at h
    by_cases hj : j < sz
    · rw [List.getElem?_append_left (by rw [henc]; exact hj)] at h
      exact ⟨x, by rw [Nat.div_eq_of_lt hj]; rfl, by rw [Nat.mod_eq_of_lt hj]; exact h⟩
    · rw [List.getElem?_append_right (by rw [henc]; omega), henc] at h
      obtain ⟨y, h1, h2⟩ := flat_at henc hsz l (j - sz) u h
      have hj' : j = (j - sz) + sz := by omega
      refine ⟨y, ?_, ?_⟩
      · rw [hj', Nat.add_div_right _ hsz]; simpa using h1
      · rw [hj', Nat.add_mod_right]; exact h2
theorem Sl.flat {α : Type} {enc : α → List Value} {sz : Nat} (henc : ∀ x, (enc x).length = sz) (hsz : 0 < sz) {W : World} {b off n c : Nat} {l : List α} (h : Sl enc sz W (.slice (some ⟨b, off, none⟩) n c) l) :
    ∀ j u, (l.flatMap enc)[j]? = some u → W.cell? ((⟨b, off, none⟩ : Addr).add j) = some u := by
  intro j u hu
  obtain ⟨x, h1, h2⟩ := flat_at henc hsz l j u hu
  obtain ⟨A', c', hv, hl, hc, hx⟩ := h
  injection hv with e1 e2 e3
  subst e2
  have hlt : j / sz < l.length := (List.getElem?_eq_some_iff.1 h1).1
  obtain ⟨b', off', hA, hb, hcell⟩ := hx (Nat.lt_of_le_of_lt (Nat.zero_le _) hlt)
  rw [hA] at e1
  injection e1 with e1
  injection e1 with e1 e4
  subst e1 e4
  have := hcell _ x h1 _ u h2
  rw [Addr.add_lit, Nat.add_assoc] at *
  rw [show j / sz * sz + j % sz = j by rw [Nat.mul_comm]; exact Nat.div_add_mod j sz] at this
  exact this
/-- append of a whole slice onto an empty one without room. -/
theorem run_copy {α : Type} {enc : α → List Value} {t ty e : TypeId} {sz : Nat} {z : Value} {bytes : Nat} (ht : Tryz.prog.underlying t = some (.slice e))
    (hinfo : (Tryz.prog.info? e).map (fun i => (i.zero, i.size, i.bytes)) = some (some z, sz, bytes)) (hzs : z.cells.size = sz) (hsz : 0 < sz) (hbytes : bytes ≤ 1000) (henc : ∀ x, (enc x).length = sz)
    {W : World} {base g : Nat} (hB : Blk W g e #[]) (hg : base ≤ g) (hW : base ≤ W.heap.size) {x : Value} {l : List α} (hx : Sl enc sz W x l) (hl : l.length ≤ 1000) :
    ∃ v' W', (Builtin.append_ #[t, t] ty #[.slice (some ⟨g, 0, none⟩) 0 0, x]).run Tryz.prog W = .ok v' W' ∧ Own enc e sz W' base v' l ∧ Ext W W' := by
  obtain ⟨i0, hi, hz0, hz1, hz2⟩ := info_parts hinfo
  subst hz1 hz2
  by_cases h0 : l.length = 0
  · have : l = [] := List.eq_nil_of_length_eq_zero h0
    subst this
    obtain ⟨A, c, rfl, _, _, _⟩ := hx
    refine ⟨_, _, run_append_nothing W t t ty e i0 ht hi _ 0 0 (Nat.le_refl _) _ ?_, Own.new hB hg, Ext.refl _⟩
    exact ⟨.inl ⟨e, ht⟩, fun _ => by simp [Builtin.lenOf], by cases A <;> simp [Builtin.firstCells, loadCells, loadCellsFrom], by cases A <;> simp [Builtin.firstCells, loadCells, loadCellsFrom], by simp, by simp⟩
  · obtain ⟨A, c, rfl, hlc, hcm, hcell⟩ := id hx
    obtain ⟨b, off, rfl, hb, _⟩ := hcell (by omega)
    have hge := grownCap_ge W (0 + l.length) 0 e
    have hge' := hge
    rw [Nat.zero_add] at hge'
    have hcm2 : grownCap W (0 + l.length) 0 e ≤ maxLen := grownCap_le_maxLen W (0 + l.length) 0 e (by unfold maxLen; omega)
    have hr := run_append_grow (P := Tryz.prog) W t ty e i0 z ht hi hz0 ⟨g, 0, none⟩ 0 0 [] (by simp) (by simp) ⟨b, off, none⟩ l.length c (l.flatMap enc) (enc_len henc l) (Sl.flat henc hsz hx) (by omega) (by omega)
      (growslice_fits (by omega) (by have : (0 + l.length) * i0.bytes ≤ 1000 * 1000 := Nat.mul_le_mul (by omega) hbytes; omega))
    refine ⟨_, _, hr, ⟨enc_len henc l, .inr ⟨W.heap.size, _, _, by rw [Nat.zero_add], hW, heap_alloc_new W.drew _, by omega, hcm2, ?_, ?_⟩⟩, (Ext.refl W).drew.alloc _⟩
    · simp only [Array.size_append, List.size_toArray, size_zeroCells, hzs, enc_len henc l, List.length_nil, Nat.zero_add]
      rw [← Nat.add_mul, Nat.add_sub_cancel' hge']
    · simp only [Array.toList_append, List.nil_append]
      rw [← enc_len henc l]
      exact List.take_left
end Go.Proofs.YtkpengeaolcjhaaGreatDoor
/- append of one number onto a slice without room: new memory. -/
namespace Go.Proofs.YtkpengeaolcjhaaGreatDoor
open Go.RowKit Go.Shelf Go.Lib
set_option maxRecDepth 100000

theorem run_app1 {t ty : TypeId} (ht : Tryz.prog.underlying t = some (.slice 3)) {W : World} {A : Option Addr} {n : Nat} {l : List Int} {b c : Nat} {y : Int} (hl : SlI W (.slice A n n) l) (hn : n ≤ 1000) (hy : W.cell? ⟨b, 0, none⟩ = some (.int .i64 y)) :
    ∃ g cap W', W.heap.size ≤ g ∧ (Builtin.append_ #[t, t] ty #[.slice A n n, .slice (some ⟨b, 0, none⟩) 1 c]).run Tryz.prog W = .ok (.slice (some ⟨g, 0, none⟩) (n + 1) cap) W' ∧ SlI W' (.slice (some ⟨g, 0, none⟩) (n + 1) cap) (l ++ [y]) ∧ Ext W W' := by
  obtain ⟨i0, hi, hz0, hz1, hz2⟩ := info_parts info3x
  obtain ⟨A', c', hv, hlc, hcm, hcell⟩ := id hl
  injection hv with e1 e2 e3
  subst e1 e3
  have hnl : n = l.length := e2
  have hnews : ∀ j v, ([Value.int .i64 y] : List Value)[j]? = some v → W.cell? ((⟨b, 0, none⟩ : Addr).add j) = some v := by
    intro j v hj
    cases j with
    | zero => simp at hj; subst hj; simpa [Addr.add] using hy
    | succ j => simp at hj
  have hI : ∀ L : List Int, (L.flatMap encI).length = L.length * 1 := enc_len (enc := encI) (fun _ => rfl)
  have hlen1 : (l.flatMap encI).length = n * i0.size := by rw [hz1, hI, hnl]
  have key : ∀ (W' : World) (cap : Nat) (rest : List Value), W' = W.drew.alloc (.cells (((l ++ [y]).flatMap encI).toArray ++ Builtin.zeroCells (Value.int .i64 0).cells (cap - (n + 1))) 3) → n + 1 ≤ cap → cap ≤ maxLen →
      SlI W' (.slice (some ⟨W.heap.size, 0, none⟩) (n + 1) cap) (l ++ [y]) ∧ Ext W W' := by
    rintro W' cap _ rfl h1 h2
    refine ⟨?_, (Ext.refl W).drew.alloc _⟩
    refine Own.sl (e := 3) (base := W.heap.size) (fun _ => rfl) ⟨by rw [hI], .inr ⟨W.heap.size, cap, _, by simp [hnl], Nat.le_refl _, heap_alloc_new W.drew _, by simp; omega, h2, ?_, ?_⟩⟩
    · have : ((l ++ [y]).flatMap encI).length = n + 1 := by rw [hI]; simp [hnl]
      simp only [Array.size_append, List.size_toArray, size_zeroCells, this]
      simp [Value.cells]
      omega
    · simp only [Array.toList_append]
      have : ((l ++ [y]).flatMap encI).length = (l ++ [y]).length * 1 := hI _
      rw [← this]
      exact List.take_left
  cases A with
  | none =>
    have h0 : n = 0 := by
      by_cases h : 0 < l.length
      · obtain ⟨_, _, h, _⟩ := hcell h; cases h
      · omega
    subst h0
    have hnil : l = [] := List.eq_nil_of_length_eq_zero hnl.symm
    subst hnil
    have hr := run_append_nil (P := Tryz.prog) (w := W) t ty 3 i0 (.int .i64 0) ht hi hz0 ⟨b, 0, none⟩ 1 c [.int .i64 y] (by rw [hz1]; rfl) hnews (by omega) (by omega) (by rw [hz2]; omega)
    obtain ⟨k1, k2⟩ := key _ (grownCap W 1 0 3) [] rfl (by have := grownCap_ge W 1 0 3; omega) (grownCap_le_maxLen W 1 0 3 (by unfold maxLen; omega))
    exact ⟨_, _, _, Nat.le_refl _, hr, k1, k2⟩
  | some a =>
    have hold : ∀ j v, (l.flatMap encI)[j]? = some v → W.cell? (a.add j) = some v := by
      intro j v hj
      have hjl : j < l.length := by have := (List.getElem?_eq_some_iff.1 hj).1; rw [hI] at this; omega
      obtain ⟨b', off', hA, hb, _⟩ := hcell (by omega)
      injection hA with hA
      subst hA
      exact Sl.flat (enc := encI) (sz := 1) (fun _ => rfl) (by decide) hl j v hj
    have hr := run_append_grow (P := Tryz.prog) (w := W) t ty 3 i0 (.int .i64 0) ht hi hz0 a n n (l.flatMap encI) hlen1 hold ⟨b, 0, none⟩ 1 c [.int .i64 y] (by rw [hz1]; rfl) hnews (by omega) (by omega) (growslice_fits (by omega) (by rw [hz2]; omega))
    obtain ⟨k1, k2⟩ := key _ (grownCap W (n + 1) n 3) [] rfl (by have := grownCap_ge W (n + 1) n 3; omega) (grownCap_le_maxLen W (n + 1) n 3 (by unfold maxLen; omega))
    refine ⟨_, _, _, Nat.le_refl _, hr, ?_, ?_⟩
    · simpa [List.flatMap_append] using k1
    · simpa [List.flatMap_append] using k2
end Go.Proofs.YtkpengeaolcjhaaGreatDoor
/- middlingref03.Twin: a bale of its own memory with the same draws and weighings. -/
namespace Go.Proofs.YtkpengeaolcjhaaGreatDoor
open Go.RowKit Go.Shelf Go.Lib
set_option maxRecDepth 100000

theorem info134x : (Tryz.prog.info? 134).map (fun i => (i.zero, i.size, i.bytes)) = some (some (.agg #[.int .i64 0, .int .i64 0, .int .i64 0, .int .i64 0]), 4, 32) := by kernel_rfl
theorem info186x : (Tryz.prog.info? 186).map (fun i => (i.zero, i.size, i.bytes)) = some (some (.agg #[.int .i64 0, .int .i64 0, .int .i64 0, .int .i64 0]), 4, 32) := by kernel_rfl
def EmptyAt (t : TypeId) (base : Nat) (v : Value) (W : World) : Prop := ∃ g, v = .slice (some ⟨g, 0, none⟩) 0 0 ∧ base ≤ g ∧ Blk W g t #[]
theorem EmptyAt.ext {t : TypeId} {base : Nat} {v : Value} {W W' : World} (h : EmptyAt t base v W) (e : Ext W W') : EmptyAt t base v W' := by
  obtain ⟨g, h1, h2, h3⟩ := h; exact ⟨g, h1, h2, h3.ext e⟩
def TwinV (b : Bale) (base : Nat) (v : Value) (W : World) : Prop := ∃ dv wv, v = valB b dv wv ∧ Own encD 134 4 W base dv b.draws ∧ Own encW 186 4 W base wv b.weighs
theorem TwinV.ext {b : Bale} {base : Nat} {v : Value} {W W' : World} (h : TwinV b base v W) (e : Ext W W') : TwinV b base v W' := by
  obtain ⟨dv, wv, h1, h2, h3⟩ := h; exact ⟨dv, wv, h1, h2.ext e, h3.ext e⟩

abbrev set6 (W : World) (g : Nat) (y0 y1 y2 y3 y4 y5 : Value) : World :=
  (((((W.setCell ⟨g, 0, none⟩ y0).setCell ⟨g, 1, none⟩ y1).setCell ⟨g, 2, none⟩ y2).setCell ⟨g, 3, none⟩ y3).setCell ⟨g, 4, none⟩ y4).setCell ⟨g, 5, none⟩ y5
theorem Blk.set6 {W : World} {g : Nat} {t : TypeId} {x0 x1 x2 x3 x4 x5 : Value} (h : Blk W g t #[x0, x1, x2, x3, x4, x5]) (y0 y1 y2 y3 y4 y5 : Value) : Blk (set6 W g y0 y1 y2 y3 y4 y5) g t #[y0, y1, y2, y3, y4, y5] := by
  have := (((((h.set_ 0 y0).set_ 1 y1).set_ 2 y2).set_ 3 y3).set_ 4 y4).set_ 5 y5
  simpa using this
theorem ret_set6 {P : Program} {fn : Func} {R : Ending → World → Prop} {ex : Exit} {a : Act} {w1 : World} {g : Nat} {t : TypeId} {x0 x1 x2 x3 x4 x5 y0 y1 y2 y3 y4 y5 : Value} (hB : Blk w1 g t #[x0, x1, x2, x3, x4, x5])
    (h : ∀ W, (W.cell? ⟨g, 0, none⟩ = some y0 ∧ W.cell? ⟨g, 1, none⟩ = some y1 ∧ W.cell? ⟨g, 2, none⟩ = some y2 ∧ W.cell? ⟨g, 3, none⟩ = some y3 ∧ W.cell? ⟨g, 4, none⟩ = some y4 ∧ W.cell? ⟨g, 5, none⟩ = some y5) → w1.grownBy W (some g) → bodyPost P fn R ex a W) :
    bodyPost P fn R ex a ((((((w1.setCell ⟨g, 0, none⟩ y0).setCell ⟨g, 1, none⟩ y1).setCell ⟨g, 2, none⟩ y2).setCell ⟨g, 3, none⟩ y3).setCell ⟨g, 4, none⟩ y4).setCell ⟨g, 5, none⟩ y5) := by
  have K := hB.set6 y0 y1 y2 y3 y4 y5
  exact h _ ⟨K.cell 0, K.cell 1, K.cell 2, K.cell 3, K.cell 4, K.cell 5⟩ (grown_set (grown_set (grown_set (grown_set (grown_set (grown_set (World.grownBy.refl _ _) (p := ⟨g, 0, none⟩) (.inl rfl) y0) (p := ⟨g, 1, none⟩) (.inl rfl) y1) (p := ⟨g, 2, none⟩) (.inl rfl) y2) (p := ⟨g, 3, none⟩) (.inl rfl) y3) (p := ⟨g, 4, none⟩) (.inl rfl) y4) (p := ⟨g, 5, none⟩) (.inl rfl) y5)
theorem ext_grownP {w w1 W : World} {g : Nat} (h : Ext w w1) (k : w1.grownBy W (some g)) (hg : w.heap.size ≤ g) : Ext w W :=
  ⟨k.os.trans h.os, k.tape.trans h.tape, k.output.trans h.output, Nat.le_trans h.size k.size, fun i hi => (k.block i (Nat.lt_of_lt_of_le hi h.size) (by intro e; injection e with e; omega)).trans (h.block i hi)⟩
set_option maxHeartbeats 1000000 in
theorem twin_any (b : Bale) (dv wv : Value) (w : World) (hd : SlD w dv b.draws) (hw : SlW w wv b.weighs) (hld : b.draws.length ≤ 1000) (hlw : b.weighs.length ≤ 1000) :
    Calls Tryz.prog 89 #[valB b dv wv] w fun e w' => (∃ v, e = .returned v ∧ TwinV b w.heap.size v w') ∧ Ext w w' := by
  have HD := Lib.hid hd
  have HW := Lib.hid hw
  obtain ⟨A, n, cp, rfl, hn, hlc, hcm⟩ := hd.form
  obtain ⟨A2, n2, cp2, rfl, hn2, hlc2, hcm2⟩ := hw.form
  clear hd hw
  go_enter Tryz.func89, Tryz.ntmps89
  go_wp2
  generalize hW0 : (w.alloc (.cells #[.int .i64 b.id, .int .i64 b.layers, .int .i64 b.dry.lo, .int .i64 b.dry.hi, .slice A n cp, .slice A2 n2 cp2] 61)).alloc (.cells #[.int .i64 0, .int .i64 0, .int .i64 0, .int .i64 0, .slice none 0 0, .slice none 0 0] 61) = w1
  have HE := Lib.hid (show Ext w w1 from hW0 ▸ ((Ext.al w _).alloc _))
  have hsz : w1.heap.size = w.heap.size + 2 := by rw [← hW0]; simp
  have HB1 := Lib.hid (show Blk w1 w.heap.size 61 #[.int .i64 b.id, .int .i64 b.layers, .int .i64 b.dry.lo, .int .i64 b.dry.hi, .slice A n cp, .slice A2 n2 cp2] from hW0 ▸ ((Blk.at_ rfl).alloc _))
  have HB2 := Lib.hid (show Blk w1 (w.heap.size + 1) 61 #[.int .i64 0, .int .i64 0, .int .i64 0, .int .i64 0, .slice none 0 0, .slice none 0 0] from hW0 ▸ (Blk.at_ (by simp)))
  clear hW0
  have m0 := fun W (h : Ext w1 W) => (show W.cell? ⟨w.heap.size, 0, none⟩ = some (.int .i64 b.id) from (HB1.out.ext h).cell 0)
  have m1 := fun W (h : Ext w1 W) => (show W.cell? ⟨w.heap.size, 1, none⟩ = some (.int .i64 b.layers) from (HB1.out.ext h).cell 1)
  have m2 := fun W (h : Ext w1 W) => (show W.cell? ⟨w.heap.size, 2, none⟩ = some (.int .i64 b.dry.lo) from (HB1.out.ext h).cell 2)
  have m3 := fun W (h : Ext w1 W) => (show W.cell? ⟨w.heap.size, 3, none⟩ = some (.int .i64 b.dry.hi) from (HB1.out.ext h).cell 3)
  have m4 := fun W (h : Ext w1 W) => (show W.cell? ⟨w.heap.size, 4, none⟩ = some (.slice A n cp) from (HB1.out.ext h).cell 4)
  have m5 := fun W (h : Ext w1 W) => (show W.cell? ⟨w.heap.size, 5, none⟩ = some (.slice A2 n2 cp2) from (HB1.out.ext h).cell 5)
  refine wp_region_tame_cut (fun W => Ext w1 W) (fun W W' => Ext W W') (by kernel_rfl) 18 rfl _ rfl (by decide +kernel) (by decide +kernel) (by decide +kernel) rfl (Ext.refl _).drew ?_
  simp only [List.dropLast]
  repeat (apply tame_q rfl; (intro ρ W hC hr hD; (obtain ⟨hrc, hrg, hrf, hrs⟩ := hr); (simp [go_sem] at hD); go_simp; first | exact ⟨⟨hC, Ext.refl _⟩, rfl⟩ | exact ⟨⟨hC, RS.refl _⟩, rfl⟩ | exact rfl); simp only [List.nil_append, List.cons_append])
  apply tame_v rfl (EmptyAt 134 (w.heap.size + 2)) (fun v W W' _ hE h => h.ext hE)
  · intro ρ W hC hr hD
    obtain ⟨hrc, hrg, hrf, hrs⟩ := hr
    simp [go_sem] at hD
    go_simp
    exact ⟨⟨hC.alloc _, Ext.al _ _⟩, ⟨_, rfl, by have := hC.size; omega, Blk.new _ _ _⟩⟩
  simp only [List.nil_append, List.cons_append]
  repeat (apply tame_q rfl; (intro ρ W hC hr hD; (obtain ⟨hrc, hrg, hrf, hrs⟩ := hr); (simp [go_sem] at hD); go_simp; first | exact ⟨⟨hC, Ext.refl _⟩, rfl⟩ | exact ⟨⟨hC, RS.refl _⟩, rfl⟩ | exact rfl); simp only [List.nil_append, List.cons_append])
  apply tame_v rfl (fun v W => Own encD 134 4 W (w.heap.size + 2) v b.draws) (fun v W W' _ hE h => h.ext hE)
  · intro ρ W hC hr hD
    obtain ⟨hrc, hrg, hrf, hrs⟩ := hr
    simp [go_sem] at hD
    obtain ⟨⟨g9, q1, q2, q3⟩, q4⟩ := hD
    obtain ⟨v', W', hrun, hown, hext⟩ := run_copy (t := 58) (ty := 58) (enc := encD) (sz := 4) Tryz.underlying58 info134x rfl (by decide) (by decide) (fun _ => rfl) q3 q2 (by have := hC.size; omega) (HD.out.ext (HE.out.trans hC)) hld
    show opGives _ _ _ _ _ _ _
    unfold opGives execOp
    simp only [resolve, invoke, builtin, Sem.run_bind, Sem.run_pure, Result.andThen_ok, List.map_toArray, List.map_cons, List.map_nil, q1, q4, hrun]
    exact ⟨⟨hC.trans hext, hext⟩, hown⟩
  simp only [List.nil_append, List.cons_append]
  apply tame_v rfl (EmptyAt 186 (w.heap.size + 2)) (fun v W W' _ hE h => h.ext hE)
  · intro ρ W hC hr hD
    obtain ⟨hrc, hrg, hrf, hrs⟩ := hr
    simp [go_sem] at hD
    go_simp
    exact ⟨⟨hC.alloc _, Ext.al _ _⟩, ⟨_, rfl, by have := hC.size; omega, Blk.new _ _ _⟩⟩
  simp only [List.nil_append, List.cons_append]
  repeat (apply tame_q rfl; (intro ρ W hC hr hD; (obtain ⟨hrc, hrg, hrf, hrs⟩ := hr); (simp [go_sem] at hD); go_simp; first | exact ⟨⟨hC, Ext.refl _⟩, rfl⟩ | exact ⟨⟨hC, RS.refl _⟩, rfl⟩ | exact rfl); simp only [List.nil_append, List.cons_append])
  apply tame_v rfl (fun v W => Own encW 186 4 W (w.heap.size + 2) v b.weighs) (fun v W W' _ hE h => h.ext hE)
  · intro ρ W hC hr hD
    obtain ⟨hrc, hrg, hrf, hrs⟩ := hr
    simp [go_sem] at hD
    obtain ⟨⟨g9, q1, q2, q3⟩, q4⟩ := hD
    obtain ⟨v', W', hrun, hown, hext⟩ := run_copy (t := 59) (ty := 59) (enc := encW) (sz := 4) Tryz.underlying59 info186x rfl (by decide) (by decide) (fun _ => rfl) q3 q2 (by have := hC.size; omega) (HW.out.ext (HE.out.trans hC)) hlw
    show opGives _ _ _ _ _ _ _
    unfold opGives execOp
    simp only [resolve, invoke, builtin, Sem.run_bind, Sem.run_pure, Result.andThen_ok, List.map_toArray, List.map_cons, List.map_nil, q1, q4, hrun]
    exact ⟨⟨hC.trans hext, hext⟩, hown⟩
  simp only [List.nil_append, List.cons_append]
  apply tame_v rfl (TwinV b (w.heap.size + 2)) (fun v W W' _ hE h => h.ext hE)
  · intro ρ W hC hr hD
    obtain ⟨hrc, hrg, hrf, hrs⟩ := hr
    simp [go_sem] at hD
    obtain ⟨d1, d2, d3, d4, d5⟩ := hD
    obtain ⟨Ad, nd, cd, ed, -, -, -⟩ := (show SlD W (ρ (.tmp 12)) b.draws from d4.sl (fun _ => rfl)).form
    obtain ⟨Aw, nw, cw, ew, -, -, -⟩ := (show SlW W (ρ (.tmp 16)) b.weighs from d5.sl (fun _ => rfl)).form
    rw [ed] at d4
    rw [ew] at d5
    have H4 := Lib.hid d4; have H5 := Lib.hid d5; clear d4 d5
    go_simp
    exact ⟨⟨hC, Ext.refl _⟩, ⟨_, _, rfl, H4.out, H5.out⟩⟩
  simp only [List.nil_append, List.cons_append]
  refine tame_end 18 rfl rfl (fun ρ W hC hr hF => ?_)
  obtain ⟨hrc, hrg, hrf, hrs⟩ := hr
  have h17 : TwinV b (w.heap.size + 2) (ρ (.tmp 17)) W := hF.2.2.2.2.2.2.2.2.2.2.2.2.2.2.1
  obtain ⟨dv, wv, e17, o1, o2⟩ := h17
  obtain ⟨Ad, nd, cd, rfl, -, -, -⟩ := (show SlD W dv b.draws from o1.sl (fun _ => rfl)).form
  obtain ⟨Aw, nw, cw, rfl, -, -, -⟩ := (show SlW W wv b.weighs from o2.sl (fun _ => rfl)).form
  have O1 := Lib.hid o1; have O2 := Lib.hid o2; clear o1 o2 hF
  dsimp only [valB] at e17
  apply frame_to
  · go_simp
    exact rfl
  have HEW := Lib.hid (HE.out.trans hC)
  have HBW := Lib.hid (HB2.out.ext hC)
  have tf := HBW.out.frozen
  have tl := HBW.out.lt
  have t0 := HBW.out.cell 0
  have t1 := HBW.out.cell 1
  have t2 := HBW.out.cell 2
  have t3 := HBW.out.cell 3
  have t4 := HBW.out.cell 4
  have t5 := HBW.out.cell 5
  simp at t0 t1 t2 t3 t4 t5
  clear hC m0 m1 m2 m3 m4 m5 hrc hrg hrf hrs e17
  go_wp2
  refine ret_set6 HBW.out fun W' ⟨b0, b1, b2, b3, b4, b5⟩ hW => ?_
  refine bodyPost_ret (v := valB b (.slice Ad nd cd) (.slice Aw nw cw)) (by simp [results, Tryz.results89, go_sem, b0, b1, b2, b3, b4, b5]) rfl ?_
  exact ⟨⟨_, rfl, ⟨_, _, rfl, own_mono (own_kept O1.out hW (by omega)) (by omega), own_mono (own_kept O2.out hW (by omega)) (by omega)⟩⟩, ext_grownP HEW.out hW (by omega)⟩
end Go.Proofs.YtkpengeaolcjhaaGreatDoor
