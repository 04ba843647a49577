/- core's kinds: all kinds that a bale can be. -/
import Derived.Test.YtkpengeaolcjhaaGreatDoorPkMlBestCardH
import Derived.Test.YtkpengeaolcjhaaGreatDoorPkMlBestCardB
import Derived.Test.YtkpengeaolcjhaaGreatDoorPkMlBestCardI
import Derived.RangeFuncCalls
import Derived.Test.YtkpengeaolcjhaaGreatDoorPkMlEvenCardB
namespace Go.Proofs.YtkpengeaolcjhaaGreatDoor
open Go.RowKit Go.Shelf Go.Lib
set_option maxRecDepth 100000
set_option linter.unusedSimpArgs false
attribute [local go_sem] Oper.semAt_some

def kindsOf (ls : List (List Int)) : S4 := ls.foldl (fun s l => s.add (kindL l)) S4.none
theorem kindsOf_snoc (ls : List (List Int)) (l : List Int) : kindsOf (ls ++ [l]) = (kindsOf ls).add (kindL l) := by unfold kindsOf; rw [List.foldl_append]; rfl
theorem S4.add_all (k : Int) : S4.all.add k = S4.all := by simp [S4.all, S4.add]
theorem kindsOf_all {p ls : List (List Int)} (h : p <+: ls) (hp : kindsOf p = S4.all) : kindsOf ls = S4.all := by
  obtain ⟨q, rfl⟩ := h
  unfold kindsOf at *
  rw [List.foldl_append, hp]
  clear hp
  induction q with
  | nil => rfl
  | cons l q ih => rw [List.foldl_cons, S4.add_all]; exact ih
theorem S4.not_num (s : S4) : s.not.num = 0 ↔ s = S4.all := by
  obtain ⟨a, b, c, d⟩ := s
  cases a <;> cases b <;> cases c <;> cases d <;> decide
theorem kindL_bd (l : List Int) : 1 ≤ kindL l ∧ kindL l ≤ 4 := by
  unfold kindL
  repeat' split
  all_goals omega

theorem Keep.map {n₀ m : Nat} {X : Nat → Prop} {A B : World} {s : S4} (hg : A.grownBy B (some m)) (hm : MapIs A m s) (hn : n₀ ≤ m) (hz : n₀ ≤ A.heap.size) : Keep n₀ X A B :=
  ⟨(Below.refl n₀ A).grown hg hz (fun k e => by injection e with e; omega), fun k hk _ hc => hg.block k hk (by intro e; injection e with e; subst e; exact hm.noCells hc)⟩
theorem round_maps {W1 : World} {m1 m2 n₀ : Nat} {X : Nat → Prop} {k : Int} {s : S4} (i1 : MapIs W1 m1 s.not) (i2 : MapIs W1 m2 s) (hne : m1 ≠ m2) (h1 : 1 ≤ k) (h4 : k ≤ 4) (n1 : n₀ ≤ m1) (n2 : n₀ ≤ m2) :
    ∃ W2 W3, (Instr.mapUpdate 93 (.map (some m2)) (.int .i64 k) (.bool true)).run Tryz.prog W1 = .ok () W2 ∧ (Builtin.delete_ #[93, 3] 0 #[.map (some m1), .int .i64 k]).run Tryz.prog W2 = .ok (.tuple #[]) W3 ∧
      (Builtin.len_ #[93] 3 #[.map (some m1)]).run Tryz.prog W3 = .ok (.int .i64 ((s.add k).not.num : Nat)) W3 ∧ MapIs W3 m1 (s.add k).not ∧ MapIs W3 m2 (s.add k) ∧
      (∀ b, b < W1.heap.size → b ≠ m1 → b ≠ m2 → W2.heap[b]? = W1.heap[b]?) ∧ (∀ b, b < W1.heap.size → b ≠ m1 → b ≠ m2 → W3.heap[b]? = W1.heap[b]?) ∧ Keep n₀ X W1 W3 := by
  have hl1 := i1.lt
  have hl2 := i2.lt
  obtain ⟨W2, r2, j2, g2⟩ := i2.store h1 h4
  have hz2 := g2.size
  have i12 : MapIs W2 m1 s.not := i1.at_ (g2.block m1 hl1 (by intro e; injection e with e; exact hne e))
  obtain ⟨W3, r3, j3, g3⟩ := i12.drop h1 h4 0
  have i23 : MapIs W3 m2 (s.add k) := j2.at_ (g3.block m2 (by omega) (by intro e; injection e with e; exact hne e.symm))
  rw [← S4.not_add] at j3
  refine ⟨W2, W3, r2, r3, j3.len _, j3, i23, fun b hb b1 b2 => g2.block b hb (by intro e; injection e with e; exact b2 e), fun b hb b1 b2 => (g3.block b (by omega) (by intro e; injection e with e; exact b1 e)).trans (g2.block b hb (by intro e; injection e with e; exact b2 e)), ?_⟩
  exact (Keep.map g2 i2 n2 (by omega)).trans (Keep.map g3 i12 n1 (by omega))
theorem sl_put {W : World} {v : Value} {x : List Int} {k : Nat} {r : Loop} {o : Obj} (h : SlI W v x) (hr : W.heap[k]? = some (.loop r)) : SlI (W.putObj k o) v x := by
  obtain ⟨A, c, hv, hl, hc, hcell⟩ := h
  refine ⟨A, c, hv, hl, hc, fun h0 => ?_⟩
  obtain ⟨b, off, hA, hb, hcell⟩ := hcell h0
  refine ⟨b, off, hA, by simpa using hb, fun i y hi j u hu => ?_⟩
  have hx := hcell i y hi j u hu
  have hne : b ≠ k := by
    intro e
    obtain ⟨c, t, f, hbk⟩ := (is_cells hx).2
    rw [e, hr] at hbk
    cases hbk
  exact (World.cell?_of_block (a := ⟨b, _, none⟩) (World.putObj_heap_other hne)).trans hx
theorem truthsL_mem {z : List (Span × Int)} : ∀ {x : List Int}, x ∈ truthsL z → x.length = z.length ∧ ∀ n ∈ x, ∃ y ∈ z, y.1.lo ≤ n ∧ n ≤ y.1.hi := by
  induction z with
  | nil => intro x hx; simp [truthsL] at hx; subst hx; simp
  | cons y z ih =>
    intro x hx
    simp only [truthsL, List.mem_flatMap, List.mem_map] at hx
    obtain ⟨n, hn, l, hl, rfl⟩ := hx
    obtain ⟨h1, h2⟩ := ih hl
    refine ⟨by simp [h1], fun m hm => ?_⟩
    rcases List.mem_cons.1 hm with rfl | hm
    · unfold gradesOf gTo at hn
      simp only [List.mem_filter, List.mem_map, List.mem_range] at hn
      obtain ⟨⟨i, hi, rfl⟩, _⟩ := hn
      exact ⟨y, List.mem_cons_self .., by omega, by omega⟩
    · obtain ⟨y', hy', h3⟩ := h2 m hm
      exact ⟨y', List.mem_cons_of_mem _ hy', h3⟩

set_option maxHeartbeats 2000000 in
theorem kinds_any (b : Bale) (dv wv lv : Value) (bb off cs : Nat) (sp : List Span) (s0 s1 s2 s3 s4 : Int) (w : World) (hsp : sp.length ≤ 5) (hsp0 : 0 < sp.length) (hbd : ∀ x ∈ sp, 0 ≤ x.lo ∧ x.lo ≤ 1000 ∧ x.hi ≤ 1000) (hs : SlS w (.slice (some ⟨bb, off, none⟩) sp.length cs) sp) :
    Calls Tryz.prog 102 #[valP b dv wv (.slice (some ⟨bb, off, none⟩) sp.length cs) lv, .agg #[.int .i64 s0, .int .i64 s1, .int .i64 s2, .int .i64 s3, .int .i64 s4]] w fun e w' =>
      ∃ m, e = .returned (.map (some m)) ∧ MapIs w' m (kindsOf (truthsL (sp.zip [s0, s1, s2, s3, s4]))) ∧ Ext w w' := by
  obtain ⟨wA, hwA⟩ : ∃ wA : World, wA = (w.alloc (.cells #[.int .i64 b.id, .int .i64 b.layers, .int .i64 b.dry.lo, .int .i64 b.dry.hi, dv, wv, .slice (some ⟨bb, off, none⟩) sp.length cs, lv] 166)).alloc (.cells #[.int .i64 s0, .int .i64 s1, .int .i64 s2, .int .i64 s3, .int .i64 s4] 172) := ⟨_, rfl⟩
  have hzA : wA.heap.size = w.heap.size + 2 := by rw [hwA]; simp
  obtain ⟨W1, r1, i1, g1⟩ := (MapIs.made wA).store (k := 1) (by decide) (by decide)
  obtain ⟨W2, r2, i2, g2⟩ := i1.store (k := 2) (by decide) (by decide)
  obtain ⟨W3, r3, i3, g3⟩ := i2.store (k := 3) (by decide) (by decide)
  obtain ⟨W4, r4, i4, g4⟩ := i3.store (k := 4) (by decide) (by decide)
  obtain ⟨WM, hWM⟩ : ∃ WM : World, WM = wA.alloc (.map #[] 0) := ⟨_, rfl⟩
  have r0 : Sem.run Tryz.prog (Instr.makeMap 93 .none) wA = .ok (.map (some (w.heap.size + 2))) WM := by rw [run_makeMap, hzA, hWM]
  have HB4 : Below (w.heap.size + 2) wA W4 := by
    have hz0 : (wA.alloc (.map #[] 0)).heap.size = w.heap.size + 3 := by simp [hzA]
    have q1 := g1.size; have q2 := g2.size; have q3 := g3.size
    refine Below.grown (Below.grown (Below.grown (Below.grown ((Below.refl _ wA).alloc (by omega) _) g1 (by omega) ?_) g2 (by omega) ?_) g3 (by omega) ?_) g4 (by omega) ?_
    all_goals (intro k e; injection e with e; omega)
  have hz4 : w.heap.size + 2 < W4.heap.size := by
    have := i4.lt; omega
  have i4' : MapIs W4 (w.heap.size + 2) S4.all := by rw [hzA] at i4; exact i4
  obtain ⟨W5, hW5⟩ : ∃ W5 : World, W5 = (W4.alloc (.cells #[.map (some (w.heap.size + 2))] 93)).alloc (.map #[] 0) := ⟨_, rfl⟩
  have r5 : Sem.run Tryz.prog (Instr.makeMap 93 .none) (W4.alloc (.cells #[.map (some (w.heap.size + 2))] 93)) = .ok (.map (some (W4.heap.size + 1))) W5 := by rw [run_makeMap, hW5]; simp
  have E45 : Ext W4 W5 := by rw [hW5]; exact (Ext.al _ _).alloc _
  have hz5 : W5.heap.size = W4.heap.size + 2 := by rw [hW5]; simp
  have HI1 := Lib.hid (show MapIs W5 (w.heap.size + 2) S4.all from i4'.ext E45)
  have HI2 := Lib.hid (show MapIs W5 (W4.heap.size + 1) S4.none by
    have := MapIs.made (W4.alloc (.cells #[.map (some (w.heap.size + 2))] 93))
    rw [hW5]; simpa using this)
  have HEA := Lib.hid (show Ext w wA by rw [hwA]; exact (Ext.al _ _).alloc _)
  have HE5 := Lib.hid (show Ext w W5 from (HEA.out.trans (HB4.mono (by omega))).trans E45)
  have cell4 : ∀ b o, b < w.heap.size + 2 → W5.cell? ⟨b, o, none⟩ = wA.cell? ⟨b, o, none⟩ := fun b o hb => (E45.cells.1 b o (by omega)).trans (HB4.cell (p := ⟨b, o, none⟩) hb)
  have x0 := (cell4 w.heap.size 0 (by omega)).trans (show _ = some (.int .i64 b.id) by rw [hwA]; simp [go_sem])
  have x1 := (cell4 w.heap.size 1 (by omega)).trans (show _ = some (.int .i64 b.layers) by rw [hwA]; simp [go_sem])
  have x2 := (cell4 w.heap.size 2 (by omega)).trans (show _ = some (.int .i64 b.dry.lo) by rw [hwA]; simp [go_sem])
  have x3 := (cell4 w.heap.size 3 (by omega)).trans (show _ = some (.int .i64 b.dry.hi) by rw [hwA]; simp [go_sem])
  have x4 := (cell4 w.heap.size 4 (by omega)).trans (show _ = some dv by rw [hwA]; simp [go_sem])
  have x5 := (cell4 w.heap.size 5 (by omega)).trans (show _ = some wv by rw [hwA]; simp [go_sem])
  have x6 := (cell4 w.heap.size 6 (by omega)).trans (show _ = some (.slice (some ⟨bb, off, none⟩) sp.length cs) by rw [hwA]; simp [go_sem])
  have x7 := (cell4 w.heap.size 7 (by omega)).trans (show _ = some lv by rw [hwA]; simp [go_sem])
  have y0 := (cell4 (w.heap.size + 1) 0 (by omega)).trans (show _ = some (.int .i64 s0) by rw [hwA]; simp [go_sem])
  have y1 := (cell4 (w.heap.size + 1) 1 (by omega)).trans (show _ = some (.int .i64 s1) by rw [hwA]; simp [go_sem])
  have y2 := (cell4 (w.heap.size + 1) 2 (by omega)).trans (show _ = some (.int .i64 s2) by rw [hwA]; simp [go_sem])
  have y3 := (cell4 (w.heap.size + 1) 3 (by omega)).trans (show _ = some (.int .i64 s3) by rw [hwA]; simp [go_sem])
  have y4 := (cell4 (w.heap.size + 1) 4 (by omega)).trans (show _ = some (.int .i64 s4) by rw [hwA]; simp [go_sem])
  have z1 : W5.cell? ⟨W4.heap.size, 0, none⟩ = some (.map (some (w.heap.size + 2))) := by
    have : (W4.alloc (.cells #[.map (some (w.heap.size + 2))] 93)).cell? ⟨W4.heap.size, 0, none⟩ = some (.map (some (w.heap.size + 2))) := by simp [go_sem]
    rw [hW5]; exact ((Ext.al _ (.map #[] 0)).cells.1 _ _ (by simp)).trans this
  have hz1 : w.heap.size + 1 < W5.heap.size := by omega
  have hz2 : w.heap.size < W5.heap.size := by omega
  have hz3 : W4.heap.size < W5.heap.size := by omega
  have HZ5 := Lib.hid hz5
  have HZ4 := Lib.hid hz4
  clear hz5 hz4
  rw [← hWM, hzA] at r1
  rw [hzA] at r2 r3 r4
  rw [hwA] at r0
  clear hwA cell4 g1 g2 g3 g4 i1 i2 i3 i4 i4' HB4 hzA hWM hW5 E45
  refine calls_of_wp_marks Tryz.func102 rfl ?_
  simp only [Tryz.ntmps102, List.size_toArray, List.length_cons, List.length_nil, Nat.reduceAdd, Nat.reduceSub, Array.replicate_succ, Array.replicate_zero, List.push_toArray, List.append_toArray, List.nil_append, List.cons_append]
  dsimp only [valP]
  go_wp2_with fail
  refine (truths_any b _ _ _ _ _ _ _ _ _ _).mono ?_
  rintro e w6 ⟨rfl, hw6⟩
  --RF
  have HW6 := Lib.hid hw6; clear hw6
  go_wp2_with fail
  have hw6 := HW6.out
  have hE6 : Ext (W5.alloc (.cells #[.map (some (W4.heap.size + 1))] 93)) w6 := by rw [hw6]; exact (Ext.al _ _).alloc _
  have E56 : Ext W5 w6 := (Ext.al _ _).trans hE6
  have hz6 : w6.heap.size = W5.heap.size + 3 := by rw [hw6]; simp
  have hPM : PM (W5.heap.size + 1) bb off (W5.heap.size + 2) cs sp [s0, s1, s2, s3, s4] w6 := by
    have hb6 : Blk w6 (W5.heap.size + 1) 166 #[.int .i64 b.id, .int .i64 b.layers, .int .i64 b.dry.lo, .int .i64 b.dry.hi, dv, wv, .slice (some ⟨bb, off, none⟩) sp.length cs, lv] := by rw [hw6]; exact (Blk.at_ (by simp)).alloc _
    have hs6 : Blk w6 (W5.heap.size + 2) 172 #[.int .i64 s0, .int .i64 s1, .int .i64 s2, .int .i64 s3, .int .i64 s4] := by rw [hw6]; exact Blk.at_ (by simp)
    refine ⟨hb6.cell 6, fun i x hx => ?_, fun i n hn => ?_⟩
    · obtain ⟨b', off', x', e1, hx', _, hc⟩ := hs.at_ (show i < sp.length from (List.getElem?_eq_some_iff.1 hx).1)
      injection e1 with e1
      injection e1 with e1 e2
      subst e1 e2
      rw [hx] at hx'
      injection hx' with hx'
      subst hx'
      exact SlS.cells hc (HE5.out.trans E56)
    · have := hs6.cell i
      match i, hn with
      | 0, hn => simp at hn; subst hn; exact this
      | 1, hn => simp at hn; subst hn; exact this
      | 2, hn => simp at hn; subst hn; exact this
      | 3, hn => simp at hn; subst hn; exact this
      | 4, hn => simp at hn; subst hn; exact this
  have hc5 : w6.cell? ⟨W4.heap.size, 0, none⟩ = some (.map (some (w.heap.size + 2))) := (E56.cells.1 _ _ hz3).trans z1
  have hc6 : w6.cell? ⟨W5.heap.size, 0, none⟩ = some (.map (some (W4.heap.size + 1))) := (hE6.cells.1 _ _ (by simp)).trans (by simp [go_sem])
  have HI16 := Lib.hid (HI1.out.ext E56)
  have HI26 := Lib.hid (HI2.out.ext E56)
  have HE6 := Lib.hid (HE5.out.trans E56)
  have hz4 := HZ4.out
  have hz5 := HZ5.out
  have hwz := HE6.out.size
  have HZ6 := Lib.hid hz6
  clear hw6 HW6 hE6 E56 x0 x1 x2 x3 x4 x5 x6 x7 y0 y1 y2 y3 y4 z1 hz1 hz2 hz3 r0 r1 r2 r3 r4 r5
  refine wp_rangeFunc (by rfl) (enters_of Tryz.func156 (by kernel_rfl) rfl) (truths_seqs (w := w6) (X := fun _ => False) (n₀ := w.heap.size) hsp rfl hbd (fun _ h => h.elim) id id id (by omega) hPM) (Ext.refl _) (by omega)
    (fun x v W r o h hr => sl_put h hr)
    (fun pre W => W.cell? ⟨W4.heap.size, 0, none⟩ = some (.map (some (w.heap.size + 2))) ∧ W.cell? ⟨W5.heap.size, 0, none⟩ = some (.map (some (W4.heap.size + 1))) ∧ MapIs W (w.heap.size + 2) (kindsOf pre).not ∧ MapIs W (W4.heap.size + 1) (kindsOf pre) ∧ Below w.heap.size w W)
    (fun c pre W => c = .exit 0 ∧ kindsOf pre = S4.all ∧ W.cell? ⟨W5.heap.size, 0, none⟩ = some (.map (some (W4.heap.size + 1))) ∧ MapIs W (W4.heap.size + 1) (kindsOf pre) ∧ Below w.heap.size w W)
    ?_ ?_ ?_ (fun v => { tmps := #[valP b dv wv (.slice (some ⟨bb, off, none⟩) sp.length cs) lv, .agg #[.int .i64 s0, .int .i64 s1, .int .i64 s2, .int .i64 s3, .int .i64 s4], .pointer (some ⟨w.heap.size, 0, none⟩), .pointer (some ⟨w.heap.size + 1, 0, none⟩), .map none, .pointer (some ⟨W4.heap.size, 0, none⟩), .pointer (some ⟨W5.heap.size, 0, none⟩), v, undef, .map (some (w.heap.size + 2)), .map (some (w.heap.size + 2)), .map (some (W4.heap.size + 1)), valP b dv wv (.slice (some ⟨bb, off, none⟩) sp.length cs) lv, .agg #[.int .i64 s0, .int .i64 s1, .int .i64 s2, .int .i64 s3, .int .i64 s4], .func (.func 156) #[] #[.pointer (some ⟨W5.heap.size + 1, 0, none⟩), .pointer (some ⟨W5.heap.size + 2, 0, none⟩)], v, undef, undef, undef, undef, undef, undef, undef, undef, undef, undef], defers := [] }) ?_ ?_ ?_ ?_
  · rintro pre A B ⟨h1, h2, h3, h4, h5⟩ hA hT
    exact ⟨(hT.cell (by omega) (by omega)).trans h1, (hT.cell (by omega) (by omega)).trans h2, h3.at_ (hT.block _ (by omega) (by omega) (by omega)), h4.at_ (hT.block _ (by omega) (by omega) (by omega)), hT.below h5 (by omega) (by omega)⟩
  · rintro c pre A B ⟨h0, h1, h2, h4, h5⟩ hA hT
    exact ⟨h0, h1, (hT.cell (by omega) (by omega)).trans h2, h4.at_ (hT.block _ (by omega) (by omega) (by omega)), hT.below h5 (by omega) (by omega)⟩
  · intro W hW
    exact ⟨(hW.cells.1 _ _ (by omega)).trans hc5, (hW.cells.1 _ _ (by omega)).trans hc6, HI16.out.ext hW, HI26.out.ext hW, HE6.out.trans hW⟩
  · intro m l v W K hK
    clear hz4 hz5 hz6 hwz
    gi_wp2
    exact hK
  · rintro m l pre x v W ⟨h1, h2, h3, h4, h5⟩ hv hpre hlt
    have hx : x ∈ truthsL (sp.zip [s0, s1, s2, s3, s4]) := by
      obtain ⟨q, hq⟩ := hpre
      rw [← hq]; simp
    obtain ⟨hxl, hxb⟩ := truthsL_mem hx
    have hxl' : x.length = sp.length := by rw [hxl, List.length_zip]; simp; omega
    have HSM := Lib.hid (show Small x from fun n hn => by
      obtain ⟨y, hy, h6, h7⟩ := hxb n hn
      have := hbd y.1 (List.of_mem_zip hy).1
      omega)
    have HXL := Lib.hid (show 0 < x.length ∧ x.length ≤ 1000 by omega)
    have HKB := Lib.hid (kindL_bd x)
    have HV := Lib.hid hv; have H3 := Lib.hid h3; have H4 := Lib.hid h4; have H5 := Lib.hid h5; have HLT := Lib.hid hlt; have HPR := Lib.hid hpre
    have q1 : W4.heap.size < W.heap.size := by omega
    have q2 : W5.heap.size < W.heap.size := by omega
    clear hz4 hz5 hz6 hwz hx hxl hxb hxl' hv h3 h4 h5 hlt hpre
    have HNE := Lib.hid (show w.heap.size + 2 ≠ W4.heap.size + 1 by have := HZ4.out; omega)
    have HN1 := Lib.hid (show w.heap.size ≤ w.heap.size + 2 by omega)
    have HN2 := Lib.hid (show w.heap.size ≤ W4.heap.size + 1 by have := HZ4.out; omega)
    have HB1 := Lib.hid (show W4.heap.size ≠ w.heap.size + 2 ∧ W4.heap.size ≠ W4.heap.size + 1 by have := HZ4.out; omega)
    have HB2 := Lib.hid (show W5.heap.size ≠ w.heap.size + 2 ∧ W5.heap.size ≠ W4.heap.size + 1 by have := HZ4.out; have := HZ5.out; omega)
    have HB3 := Lib.hid (show w6.heap.size ≠ w.heap.size + 2 ∧ w6.heap.size ≠ W4.heap.size + 1 ∧ w6.heap.size + 1 ≠ w.heap.size + 2 ∧ w6.heap.size + 1 ≠ W4.heap.size + 1 by have := HZ4.out; have := HZ5.out; have := HZ6.out; omega)
    by_cases hall : kindsOf (pre ++ [x]) = S4.all
    · have HALL := Lib.hid hall
      have HNU := Lib.hid (show (((kindsOf pre).add (kindL x)).not.num : Int) = 0 by rw [← kindsOf_snoc, hall]; rfl)
      clear hall
      gi_wp2_with fail
      refine ⟨trivial, wide_depth _, ?_⟩
      refine (CallsIn.inRound l (callsIn_wide.2 (kind_any x v _ HV.out HXL.out.1 HXL.out.2 HSM.out))).mono ?_
      rintro e W1 ⟨rfl, hE⟩
      obtain ⟨W2, W3, rr2, rr3, rr4, j1, j2, kb2, kb3, hkp⟩ := round_maps (n₀ := w.heap.size) (X := fun _ => False) (H3.out.ext hE) (H4.out.ext hE) HNE.out HKB.out.1 HKB.out.2 HN1.out HN2.out
      rw [HNU.out] at rr4
      have sE := hE.size
      have o1 := (hE.cells.1 _ _ q1).trans h1
      have o2 := (hE.cells.1 _ _ q2).trans h2
      have p1 := (World.cell?_of_block (a := ⟨W4.heap.size, 0, none⟩) (kb2 W4.heap.size (by omega) HB1.out.1 HB1.out.2)).trans o1
      have p3 := (World.cell?_of_block (a := ⟨W4.heap.size, 0, none⟩) (kb3 W4.heap.size (by omega) HB1.out.1 HB1.out.2)).trans o1
      have HJ1 := Lib.hid j1
      have HJ2 := Lib.hid j2
      have HKB3 := Lib.hid kb3
      have HKP := Lib.hid hkp
      have HEE := Lib.hid hE
      clear j1 j2 kb2 kb3 hkp hE h1 h2
      gi_wp2
      have hlt := HLT.out
      have hwn := HE6.out.size
      have d0 : W3.heap[w6.heap.size]? = W.heap[w6.heap.size]? := (HKB3.out w6.heap.size (by omega) HB3.out.1 HB3.out.2.1).trans (HEE.out.block _ (by omega))
      have d1 : W3.heap[w6.heap.size + 1]? = W.heap[w6.heap.size + 1]? := (HKB3.out (w6.heap.size + 1) (by omega) HB3.out.2.2.1 HB3.out.2.2.2).trans (HEE.out.block _ (by omega))
      have d6 : W3.cell? ⟨W5.heap.size, 0, none⟩ = some (.map (some (W4.heap.size + 1))) := (World.cell?_of_block (a := ⟨W5.heap.size, 0, none⟩) (HKB3.out W5.heap.size (by omega) HB2.out.1 HB2.out.2)).trans o2
      have dw : w.heap.size ≤ W.heap.size := H5.out.size
      have dk : Keep w.heap.size (fun _ => False) W W3 := (Keep.ext HEE.out dw).trans HKP.out
      exact ⟨d0, d1, rfl, HALL.out, d6, by rw [kindsOf_snoc]; exact HJ2.out, H5.out.trans dk.b⟩
    · have HNU := Lib.hid (show (((kindsOf pre).add (kindL x)).not.num : Int) = (((kindsOf (pre ++ [x])).not.num : Nat) : Int) by rw [← kindsOf_snoc])
      have hnn : ¬ ((((kindsOf (pre ++ [x])).not.num : Nat) : Int) = 0) := by
        intro h; exact hall ((S4.not_num _).1 (by omega))
      have hnb : ((((kindsOf (pre ++ [x])).not.num : Nat) : Int) == 0) = false := by simpa using hnn
      clear hall
      gi_wp2_with fail
      refine ⟨trivial, wide_depth _, ?_⟩
      refine (CallsIn.inRound l (callsIn_wide.2 (kind_any x v _ HV.out HXL.out.1 HXL.out.2 HSM.out))).mono ?_
      rintro e W1 ⟨rfl, hE⟩
      obtain ⟨W2, W3, rr2, rr3, rr4, j1, j2, kb2, kb3, hkp⟩ := round_maps (n₀ := w.heap.size) (X := fun _ => False) (H3.out.ext hE) (H4.out.ext hE) HNE.out HKB.out.1 HKB.out.2 HN1.out HN2.out
      rw [HNU.out] at rr4
      have sE := hE.size
      have o1 := (hE.cells.1 _ _ q1).trans h1
      have o2 := (hE.cells.1 _ _ q2).trans h2
      have p1 := (World.cell?_of_block (a := ⟨W4.heap.size, 0, none⟩) (kb2 W4.heap.size (by omega) HB1.out.1 HB1.out.2)).trans o1
      have p3 := (World.cell?_of_block (a := ⟨W4.heap.size, 0, none⟩) (kb3 W4.heap.size (by omega) HB1.out.1 HB1.out.2)).trans o1
      have HJ1 := Lib.hid j1
      have HJ2 := Lib.hid j2
      have HKB3 := Lib.hid kb3
      have HKP := Lib.hid hkp
      have HEE := Lib.hid hE
      clear j1 j2 kb2 kb3 hkp hE h1 h2
      gi_wp2
      have hlt := HLT.out
      have hwn := HE6.out.size
      have d0 : W3.heap[w6.heap.size]? = W.heap[w6.heap.size]? := (HKB3.out w6.heap.size (by omega) HB3.out.1 HB3.out.2.1).trans (HEE.out.block _ (by omega))
      have d1 : W3.heap[w6.heap.size + 1]? = W.heap[w6.heap.size + 1]? := (HKB3.out (w6.heap.size + 1) (by omega) HB3.out.2.2.1 HB3.out.2.2.2).trans (HEE.out.block _ (by omega))
      have d6 : W3.cell? ⟨W5.heap.size, 0, none⟩ = some (.map (some (W4.heap.size + 1))) := (World.cell?_of_block (a := ⟨W5.heap.size, 0, none⟩) (HKB3.out W5.heap.size (by omega) HB2.out.1 HB2.out.2)).trans o2
      have dw : w.heap.size ≤ W.heap.size := H5.out.size
      have dk : Keep w.heap.size (fun _ => False) W W3 := (Keep.ext HEE.out dw).trans HKP.out
      exact ⟨dk, d0, d1, p3, d6, by rw [kindsOf_snoc]; exact HJ1.out, by rw [kindsOf_snoc]; exact HJ2.out, H5.out.trans dk.b⟩
  · rintro W ⟨h1, h2, h3, h4, h5⟩ hlt hK
    clear hz4 hz5 hz6 hwz
    go_wp2
    refine ⟨by simp, .inl ⟨_, _, rfl, run_takeDeferred hK, ?_⟩⟩
    have hne : W4.heap.size + 1 ≠ w6.heap.size := by have := HZ5.out; have := HZ6.out; omega
    refine ⟨.map (some (W4.heap.size + 1)), by simp [results, Tryz.results102, go_sem], _, rfl, h4.at_ (World.putObj_heap_other hne), ?_⟩
    exact Turn.below h5 (Turn.put0 (s := w6.heap.size) _ _) (by have := HE6.out.size; omega) h5.size
  · rintro c pre W hpre ⟨rfl, h1, h2, h4, h5⟩ hlt hK
    clear hz4 hz5 hz6 hwz
    go_wp2
    refine ⟨by simp, .inl ⟨_, _, rfl, run_takeDeferred hK, ?_⟩⟩
    have hne : W4.heap.size + 1 ≠ w6.heap.size := by have := HZ5.out; have := HZ6.out; omega
    refine ⟨.map (some (W4.heap.size + 1)), by simp [results, Tryz.results102, go_sem], _, rfl, by rw [kindsOf_all hpre h1, ← h1]; exact h4.at_ (World.putObj_heap_other hne), ?_⟩
    exact Turn.below h5 (Turn.put0 (s := w6.heap.size) _ _) (by have := HE6.out.size; omega) h5.size
end Go.Proofs.YtkpengeaolcjhaaGreatDoor
/- The reference's kinds: a recursion that notes each kind in an array. -/
namespace Go.Proofs.YtkpengeaolcjhaaGreatDoor
open Go.RowKit Go.Shelf Go.Lib
set_option maxRecDepth 100000
set_option linter.unusedSimpArgs false

def rk (s : S4) (ls : List (List Int)) : S4 := ls.foldl (fun s l => s.add (kindR l)) s
theorem Sl.grown {α : Type} {enc : α → List Value} {sz ob : Nat} {W W' : World} {A : Option Addr} {n c : Nat} {l : List α} (h : Sl enc sz W (.slice A n c) l) (hg : W.grownBy W' (some ob)) (hA : ∀ b o, A = some ⟨b, o, none⟩ → b ≠ ob) : Sl enc sz W' (.slice A n c) l := by
  obtain ⟨a', c', hv, hl, hc, hcell⟩ := h
  injection hv with e1 e2 e3
  subst e1 e2 e3
  refine ⟨_, _, rfl, hl, hc, fun h0 => ?_⟩
  obtain ⟨b, off, hA', hb, hcell⟩ := hcell h0
  have hne := hA _ _ hA'
  exact ⟨b, off, hA', Nat.lt_of_lt_of_le hb hg.size, fun i x hi j u hu => (World.cell?_of_block (a := ⟨b, _, none⟩) (hg.block b hb (by intro e; injection e with e; exact hne e))).trans (hcell i x hi j u hu)⟩
end Go.Proofs.YtkpengeaolcjhaaGreatDoor
/- The reference's many: how many kinds, and which. -/
namespace Go.Proofs.YtkpengeaolcjhaaGreatDoor
open Go.RowKit Go.Shelf Go.Lib
set_option maxRecDepth 100000
set_option linter.unusedSimpArgs false

abbrev set5 (W : World) (g : Nat) (y0 y1 y2 y3 y4 : Value) : World :=
  ((((W.setCell ⟨g, 0, none⟩ y0).setCell ⟨g, 1, none⟩ y1).setCell ⟨g, 2, none⟩ y2).setCell ⟨g, 3, none⟩ y3).setCell ⟨g, 4, none⟩ y4
theorem Blk.set5 {W : World} {g : Nat} {t : TypeId} {x0 x1 x2 x3 x4 : Value} (h : Blk W g t #[x0, x1, x2, x3, x4]) (y0 y1 y2 y3 y4 : Value) : Blk (set5 W g y0 y1 y2 y3 y4) g t #[y0, y1, y2, y3, y4] := by
  have := ((((h.set_ 0 y0).set_ 1 y1).set_ 2 y2).set_ 3 y3).set_ 4 y4
  simpa using this
end Go.Proofs.YtkpengeaolcjhaaGreatDoor
/- The plain law: the reference's kinds are core's. -/
namespace Go.Proofs.YtkpengeaolcjhaaGreatDoor
open Go.RowKit Go.Shelf
set_option linter.unusedSimpArgs false

theorem spanAt_bd (l : List Draw) (i : Int) (hd : ∀ x ∈ l, 1 ≤ x.grade.lo ∧ x.grade.lo ≤ x.grade.hi ∧ x.grade.hi ≤ 9) : 1 ≤ (spanAt l i).lo ∧ (spanAt l i).lo ≤ 9 ∧ (spanAt l i).hi ≤ 9 ∧ 1 ≤ (spanAt l i).hi := by
  unfold spanAt
  have : ∀ (l : List Draw) (s : Span), (∀ x ∈ l, 1 ≤ x.grade.lo ∧ x.grade.lo ≤ x.grade.hi ∧ x.grade.hi ≤ 9) → (1 ≤ s.lo ∧ s.lo ≤ 9 ∧ s.hi ≤ 9 ∧ 1 ≤ s.hi) → (1 ≤ (l.foldl (spanStep i) s).lo ∧ (l.foldl (spanStep i) s).lo ≤ 9 ∧ (l.foldl (spanStep i) s).hi ≤ 9 ∧ 1 ≤ (l.foldl (spanStep i) s).hi) := by
    intro l
    induction l with
    | nil => intro s _ h; exact h
    | cons x l ih =>
      intro s hd h
      rw [List.foldl_cons]
      refine ih _ (fun y hy => hd y (List.mem_cons_of_mem _ hy)) ?_
      have hx := hd x (List.mem_cons_self ..)
      unfold spanStep
      split
      · dsimp only; omega
      · exact h
  exact this l ⟨1, 9⟩ hd (by decide)
theorem spans_bd {b : Bale} (h : valid b = true) : ∀ x ∈ spans b, 1 ≤ x.lo ∧ x.lo ≤ 9 ∧ x.hi ≤ 9 ∧ 1 ≤ x.hi := by
  intro x hx
  have hB := valid_bds h
  unfold spans spansTo at hx
  rw [List.mem_map] at hx
  obtain ⟨i, _, rfl⟩ := hx
  exact spanAt_bd _ _ (fun y hy => by have := hB.d y hy; omega)

end Go.Proofs.YtkpengeaolcjhaaGreatDoor
