/- core's kinds: all kinds that a bale can be. -/
import Derived.Test.YtkpengeaolcjhaaGreatDoorPkMlBoundsCardJ
import Derived.Test.YtkpengeaolcjhaaGreatDoorPkMlBoundsCardC
import Derived.Test.YtkpengeaolcjhaaGreatDoorPkMlBoundsCardK
import Derived.RangeFuncCalls
import Derived.Test.YtkpengeaolcjhaaGreatDoorPkMlBoundsCardB
namespace Go.Proofs.YtkpengeaolcjhaaGreatDoor
open Go.RowKit Go.Shelf Go.Lib
set_option maxRecDepth 100000
set_option linter.unusedSimpArgs false
attribute [local go_sem] Oper.semAt_some

def kindsOf (ls : List (List Int)) : S4 := ls.foldl (fun s l => s.add (kindL l)) S4.none
theorem kindsOf_snoc (ls : List (List Int)) (l : List Int) : kindsOf (ls ++ [l]) = (kindsOf ls).add (kindL l) := by unfold kindsOf; rw [List.foldl_append]; rfl
theorem S4.add_all (k : Int) : S4.all.add k = S4.all := by simp [S4.all, S4.add]
theorem kindsOf_all {p ls : List (List Int)} (h : p <+: ls) (hp : kindsOf p = S4.all) : kindsOf ls = S4.all := by
  obtain ⟨q, rfl⟩ := h
  unfold kindsOf at *
  rw [List.foldl_append, hp]
  clear hp
  induction q with
  | nil => rfl
  | cons l q ih => rw [List.foldl_cons, S4.add_all]; exact ih
theorem S4.not_num (s : S4) : s.not.num = 0 ↔ s = S4.all := by
  obtain ⟨a, b, c, d⟩ := s
  cases a <;> cases b <;> cases c <;> cases d <;> decide
theorem kindL_bd (l : List Int) : 1 ≤ kindL l ∧ kindL l ≤ 4 := by
  unfold kindL
  repeat' split
  all_goals omega

theorem Keep.map {n₀ m : Nat} {X : Nat → Prop} {A B : World} {s : S4} (hg : A.grownBy B (some m)) (hm : MapIs A m s) (hn : n₀ ≤ m) (hz : n₀ ≤ A.heap.size) : Keep n₀ X A B :=
  ⟨(Below.refl n₀ A).grown hg hz (fun k e => by injection e with e; omega), fun k hk _ hc => hg.block k hk (by intro e; injection e with e; subst e; exact hm.noCells hc)⟩
theorem round_maps {W1 : World} {m1 m2 n₀ : Nat} {X : Nat → Prop} {k : Int} {s : S4} (i1 : MapIs W1 m1 s.not) (i2 : MapIs W1 m2 s) (hne : m1 ≠ m2) (h1 : 1 ≤ k) (h4 : k ≤ 4) (n1 : n₀ ≤ m1) (n2 : n₀ ≤ m2) :
    ∃ W2 W3, (Instr.mapUpdate 93 (.map (some m2)) (.int .i64 k) (.bool true)).run Tryz.prog W1 = .ok () W2 ∧ (Builtin.delete_ #[93, 3] 0 #[.map (some m1), .int .i64 k]).run Tryz.prog W2 = .ok (.tuple #[]) W3 ∧
      (Builtin.len_ #[93] 3 #[.map (some m1)]).run Tryz.prog W3 = .ok (.int .i64 ((s.add k).not.num : Nat)) W3 ∧ MapIs W3 m1 (s.add k).not ∧ MapIs W3 m2 (s.add k) ∧
      (∀ b, b < W1.heap.size → b ≠ m1 → b ≠ m2 → W2.heap[b]? = W1.heap[b]?) ∧ (∀ b, b < W1.heap.size → b ≠ m1 → b ≠ m2 → W3.heap[b]? = W1.heap[b]?) ∧ Keep n₀ X W1 W3 := by
  have hl1 := i1.lt
  have hl2 := i2.lt
  obtain ⟨W2, r2, j2, g2⟩ := i2.store h1 h4
  have hz2 := g2.size
  have i12 : MapIs W2 m1 s.not := i1.at_ (g2.block m1 hl1 (by intro e; injection e with e; exact hne e))
  obtain ⟨W3, r3, j3, g3⟩ := i12.drop h1 h4 0
  have i23 : MapIs W3 m2 (s.add k) := j2.at_ (g3.block m2 (by omega) (by intro e; injection e with e; exact hne e.symm))
  rw [← S4.not_add] at j3
  refine ⟨W2, W3, r2, r3, j3.len _, j3, i23, fun b hb b1 b2 => g2.block b hb (by intro e; injection e with e; exact b2 e), fun b hb b1 b2 => (g3.block b (by omega) (by intro e; injection e with e; exact b1 e)).trans (g2.block b hb (by intro e; injection e with e; exact b2 e)), ?_⟩
  exact (Keep.map g2 i2 n2 (by omega)).trans (Keep.map g3 i12 n1 (by omega))
theorem sl_put {W : World} {v : Value} {x : List Int} {k : Nat} {r : Loop} {o : Obj} (h : SlI W v x) (hr : W.heap[k]? = some (.loop r)) : SlI (W.putObj k o) v x := by
  obtain ⟨A, c, hv, hl, hc, hcell⟩ := h
  refine ⟨A, c, hv, hl, hc, fun h0 => ?_⟩
  obtain ⟨b, off, hA, hb, hcell⟩ := hcell h0
  refine ⟨b, off, hA, by simpa using hb, fun i y hi j u hu => ?_⟩
  have hx := hcell i y hi j u hu
  have hne : b ≠ k := by
    intro e
    obtain ⟨c, t, f, hbk⟩ := (is_cells hx).2
    rw [e, hr] at hbk
    cases hbk
  exact (World.cell?_of_block (a := ⟨b, _, none⟩) (World.putObj_heap_other hne)).trans hx
theorem truthsL_mem {z : List (Span × Int)} : ∀ {x : List Int}, x ∈ truthsL z → x.length = z.length ∧ ∀ n ∈ x, ∃ y ∈ z, y.1.lo ≤ n ∧ n ≤ y.1.hi := by
  induction z with
  | nil => intro x hx; simp [truthsL] at hx; subst hx; simp
  | cons y z ih =>
    intro x hx
    simp only [truthsL, List.mem_flatMap, List.mem_map] at hx
    obtain ⟨n, hn, l, hl, rfl⟩ := hx
    obtain ⟨h1, h2⟩ := ih hl
    refine ⟨by simp [h1], fun m hm => ?_⟩
    rcases List.mem_cons.1 hm with rfl | hm
    · unfold gradesOf gTo at hn
      simp only [List.mem_filter, List.mem_map, List.mem_range] at hn
      obtain ⟨⟨i, hi, rfl⟩, _⟩ := hn
      exact ⟨y, List.mem_cons_self .., by omega, by omega⟩
    · obtain ⟨y', hy', h3⟩ := h2 m hm
      exact ⟨y', List.mem_cons_of_mem _ hy', h3⟩

set_option maxHeartbeats 2000000 in
theorem kinds_any (b : Bale) (dv wv lv : Value) (bb off cs : Nat) (sp : List Span) (s0 s1 s2 s3 s4 : Int) (w : World) (hsp : sp.length ≤ 5) (hsp0 : 0 < sp.length) (hbd : ∀ x ∈ sp, 0 ≤ x.lo ∧ x.lo ≤ 1000 ∧ x.hi ≤ 1000) (hs : SlS w (.slice (some ⟨bb, off, none⟩) sp.length cs) sp) :
    Calls Tryz.prog 102 #[valP b dv wv (.slice (some ⟨bb, off, none⟩) sp.length cs) lv, .agg #[.int .i64 s0, .int .i64 s1, .int .i64 s2, .int .i64 s3, .int .i64 s4]] w fun e w' =>
      ∃ m, e = .returned (.map (some m)) ∧ MapIs w' m (kindsOf (truthsL (sp.zip [s0, s1, s2, s3, s4]))) ∧ Ext w w' := by
  obtain ⟨wA, hwA⟩ : ∃ wA : World, wA = (w.alloc (.cells #[.int .i64 b.id, .int .i64 b.layers, .int .i64 b.dry.lo, .int .i64 b.dry.hi, dv, wv, .slice (some ⟨bb, off, none⟩) sp.length cs, lv] 166)).alloc (.cells #[.int .i64 s0, .int .i64 s1, .int .i64 s2, .int .i64 s3, .int .i64 s4] 172) := ⟨_, rfl⟩
  have hzA : wA.heap.size = w.heap.size + 2 := by rw [hwA]; simp
  obtain ⟨W1, r1, i1, g1⟩ := (MapIs.made wA).store (k := 1) (by decide) (by decide)
  obtain ⟨W2, r2, i2, g2⟩ := i1.store (k := 2) (by decide) (by decide)
  obtain ⟨W3, r3, i3, g3⟩ := i2.store (k := 3) (by decide) (by decide)
  obtain ⟨W4, r4, i4, g4⟩ := i3.store (k := 4) (by decide) (by decide)
  obtain ⟨WM, hWM⟩ : ∃ WM : World, WM = wA.alloc (.map #[] 0) := ⟨_, rfl⟩
  have r0 : Sem.run Tryz.prog (Instr.makeMap 93 .none) wA = .ok (.map (some (w.heap.size + 2))) WM := by rw [run_makeMap, hzA, hWM]
  have HB4 : Below (w.heap.size + 2) wA W4 := by
    have hz0 : (wA.alloc (.map #[] 0)).heap.size = w.heap.size + 3 := by simp [hzA]
    have q1 := g1.size; have q2 := g2.size; have q3 := g3.size
    refine Below.grown (Below.grown (Below.grown (Below.grown ((Below.refl _ wA).alloc (by omega) _) g1 (by omega) ?_) g2 (by omega) ?_) g3 (by omega) ?_) g4 (by omega) ?_
    all_goals (intro k e; injection e with e; omega)
  have hz4 : w.heap.size + 2 < W4.heap.size := by
    have := i4.lt; omega
  have i4' : MapIs W4 (w.heap.size + 2) S4.all := by rw [hzA] at i4; exact i4
  obtain ⟨W5, hW5⟩ : ∃ W5 : World, W5 = (W4.alloc (.cells #[.map (some (w.heap.size + 2))] 93)).alloc (.map #[] 0) := ⟨_, rfl⟩
  have r5 : Sem.run Tryz.prog (Instr.makeMap 93 .none) (W4.alloc (.cells #[.map (some (w.heap.size + 2))] 93)) = .ok (.map (some (W4.heap.size + 1))) W5 := by rw [run_makeMap, hW5]; simp
  have E45 : Ext W4 W5 := by rw [hW5]; exact (Ext.al _ _).alloc _
  have hz5 : W5.heap.size = W4.heap.size + 2 := by rw [hW5]; simp
  have HI1 := Lib.hid (show MapIs W5 (w.heap.size + 2) S4.all from i4'.ext E45)
  have HI2 := Lib.hid (show MapIs W5 (W4.heap.size + 1) S4.none by
    have := MapIs.made (W4.alloc (.cells #[.map (some (w.heap.size + 2))] 93))
    rw [hW5]; simpa using this)
  have HEA := Lib.hid (show Ext w wA by rw [hwA]; exact (Ext.al _ _).alloc _)
  have HE5 := Lib.hid (show Ext w W5 from (HEA.out.trans (HB4.mono (by omega))).trans E45)
  have cell4 : ∀ b o, b < w.heap.size + 2 → W5.cell? ⟨b, o, none⟩ = wA.cell? ⟨b, o, none⟩ := fun b o hb => (E45.cells.1 b o (by omega)).trans (HB4.cell (p := ⟨b, o, none⟩) hb)
  have x0 := (cell4 w.heap.size 0 (by omega)).trans (show _ = some (.int .i64 b.id) by rw [hwA]; simp [go_sem])
  have x1 := (cell4 w.heap.size 1 (by omega)).trans (show _ = some (.int .i64 b.layers) by rw [hwA]; simp [go_sem])
  have x2 := (cell4 w.heap.size 2 (by omega)).trans (show _ = some (.int .i64 b.dry.lo) by rw [hwA]; simp [go_sem])
  have x3 := (cell4 w.heap.size 3 (by omega)).trans (show _ = some (.int .i64 b.dry.hi) by rw [hwA]; simp [go_sem])
  have x4 := (cell4 w.heap.size 4 (by omega)).trans (show _ = some dv by rw [hwA]; simp [go_sem])
  have x5 := (cell4 w.heap.size 5 (by omega)).trans (show _ = some wv by rw [hwA]; simp [go_sem])
  have x6 := (cell4 w.heap.size 6 (by omega)).trans (show _ = some (.slice (some ⟨bb, off, none⟩) sp.length cs) by rw [hwA]; simp [go_sem])
  have x7 := (cell4 w.heap.size 7 (by omega)).trans (show _ = some lv by rw [hwA]; simp [go_sem])
  have y0 := (cell4 (w.heap.size + 1) 0 (by omega)).trans (show _ = some (.int .i64 s0) by rw [hwA]; simp [go_sem])
  have y1 := (cell4 (w.heap.size + 1) 1 (by omega)).trans (show _ = some (.int .i64 s1) by rw [hwA]; simp [go_sem])
  have y2 := (cell4 (w.heap.size + 1) 2 (by omega)).trans (show _ = some (.int .i64 s2) by rw [hwA]; simp [go_sem])
  have y3 := (cell4 (w.heap.size + 1) 3 (by omega)).trans (show _ = some (.int .i64 s3) by rw [hwA]; simp [go_sem])
  have y4 := (cell4 (w.heap.size + 1) 4 (by omega)).trans (show _ = some (.int .i64 s4) by rw [hwA]; simp [go_sem])
  have z1 : W5.cell? ⟨W4.heap.size, 0, none⟩ = some (.map (some (w.heap.size + 2))) := by
    have : (W4.alloc (.cells #[.map (some (w.heap.size + 2))] 93)).cell? ⟨W4.heap.size, 0, none⟩ = some (.map (some (w.heap.size + 2))) := by simp [go_sem]
    rw [hW5]; exact ((Ext.al _ (.map #[] 0)).cells.1 _ _ (by simp)).trans this
  have hz1 : w.heap.size + 1 < W5.heap.size := by omega
  have hz2 : w.heap.size < W5.heap.size := by omega
  have hz3 : W4.heap.size < W5.heap.size := by omega
  have HZ5 := Lib.hid hz5
  have HZ4 := Lib.hid hz4
  clear hz5 hz4
  rw [← hWM, hzA] at r1
  rw [hzA] at r2 r3 r4
  rw [hwA] at r0
  clear hwA cell4 g1 g2 g3 g4 i1 i2 i3 i4 i4' HB4 hzA hWM hW5 E45
  refine calls_of_wp_marks Tryz.func102 rfl ?_
  simp only [Tryz.ntmps102, List.size_toArray, List.length_cons, List.length_nil, Nat.reduceAdd, Nat.reduceSub, Array.replicate_succ, Array.replicate_zero, List.push_toArray, List.append_toArray, List.nil_append, List.cons_append]
  dsimp only [valP]
  go_wp2_with fail
  refine (truths_any b _ _ _ _ _ _ _ _ _ _).mono ?_
  rintro e w6 ⟨rfl, hw6⟩
  --RF
  have HW6 := Lib.hid hw6; clear hw6
  go_wp2_with fail
  have hw6 := HW6.out
  have hE6 : Ext (W5.alloc (.cells #[.map (some (W4.heap.size + 1))] 93)) w6 := by rw [hw6]; exact (Ext.al _ _).alloc _
  have E56 : Ext W5 w6 := (Ext.al _ _).trans hE6
  have hz6 : w6.heap.size = W5.heap.size + 3 := by rw [hw6]; simp
  have hPM : PM (W5.heap.size + 1) bb off (W5.heap.size + 2) cs sp [s0, s1, s2, s3, s4] w6 := by
    have hb6 : Blk w6 (W5.heap.size + 1) 166 #[.int .i64 b.id, .int .i64 b.layers, .int .i64 b.dry.lo, .int .i64 b.dry.hi, dv, wv, .slice (some ⟨bb, off, none⟩) sp.length cs, lv] := by rw [hw6]; exact (Blk.at_ (by simp)).alloc _
    have hs6 : Blk w6 (W5.heap.size + 2) 172 #[.int .i64 s0, .int .i64 s1, .int .i64 s2, .int .i64 s3, .int .i64 s4] := by rw [hw6]; exact Blk.at_ (by simp)
    refine ⟨hb6.cell 6, fun i x hx => ?_, fun i n hn => ?_⟩
    · obtain ⟨b', off', x', e1, hx', _, hc⟩ := hs.at_ (show i < sp.length from (List.getElem?_eq_some_iff.1 hx).1)
      injection e1 with e1
      injection e1 with e1 e2
      subst e1 e2
      rw [hx] at hx'
      injection hx' with hx'
      subst hx'
      exact SlS.cells hc (HE5.out.trans E56)
    · have := hs6.cell i
      match i, hn with
      | 0, hn => simp at hn; subst hn; exact this
      | 1, hn => simp at hn; subst hn; exact this
      | 2, hn => simp at hn; subst hn; exact this
      | 3, hn => simp at hn; subst hn; exact this
      | 4, hn => simp at hn; subst hn; exact this
  have hc5 : w6.cell? ⟨W4.heap.size, 0, none⟩ = some (.map (some (w.heap.size + 2))) := (E56.cells.1 _ _ hz3).trans z1
  have hc6 : w6.cell? ⟨W5.heap.size, 0, none⟩ = some (.map (some (W4.heap.size + 1))) := (hE6.cells.1 _ _ (by simp)).trans (by simp [go_sem])
  have HI16 := Lib.hid (HI1.out.ext E56)
  have HI26 := Lib.hid (HI2.out.ext E56)
  have HE6 := Lib.hid (HE5.out.trans E56)
  have hz4 := HZ4.out
  have hz5 := HZ5.out
  have hwz := HE6.out.size
  have HZ6 := Lib.hid hz6
  clear hw6 HW6 hE6 E56 x0 x1 x2 x3 x4 x5 x6 x7 y0 y1 y2 y3 y4 z1 hz1 hz2 hz3 r0 r1 r2 r3 r4 r5
  refine wp_rangeFunc (by rfl) (enters_of Tryz.func156 (by kernel_rfl) rfl) (truths_seqs (w := w6) (X := fun _ => False) (n₀ := w.heap.size) hsp rfl hbd (fun _ h => h.elim) id id id (by omega) hPM) (Ext.refl _) (by omega)
    (fun x v W r o h hr => sl_put h hr)
    (fun pre W => W.cell? ⟨W4.heap.size, 0, none⟩ = some (.map (some (w.heap.size + 2))) ∧ W.cell? ⟨W5.heap.size, 0, none⟩ = some (.map (some (W4.heap.size + 1))) ∧ MapIs W (w.heap.size + 2) (kindsOf pre).not ∧ MapIs W (W4.heap.size + 1) (kindsOf pre) ∧ Below w.heap.size w W)
    (fun c pre W => c = .exit 0 ∧ kindsOf pre = S4.all ∧ W.cell? ⟨W5.heap.size, 0, none⟩ = some (.map (some (W4.heap.size + 1))) ∧ MapIs W (W4.heap.size + 1) (kindsOf pre) ∧ Below w.heap.size w W)
    ?_ ?_ ?_ (fun v => { tmps := #[valP b dv wv (.slice (some ⟨bb, off, none⟩) sp.length cs) lv, .agg #[.int .i64 s0, .int .i64 s1, .int .i64 s2, .int .i64 s3, .int .i64 s4], .pointer (some ⟨w.heap.size, 0, none⟩), .pointer (some ⟨w.heap.size + 1, 0, none⟩), .map none, .pointer (some ⟨W4.heap.size, 0, none⟩), .pointer (some ⟨W5.heap.size, 0, none⟩), v, undef, .map (some (w.heap.size + 2)), .map (some (w.heap.size + 2)), .map (some (W4.heap.size + 1)), valP b dv wv (.slice (some ⟨bb, off, none⟩) sp.length cs) lv, .agg #[.int .i64 s0, .int .i64 s1, .int .i64 s2, .int .i64 s3, .int .i64 s4], .func (.func 156) #[] #[.pointer (some ⟨W5.heap.size + 1, 0, none⟩), .pointer (some ⟨W5.heap.size + 2, 0, none⟩)], v, undef, undef, undef, undef, undef, undef, undef, undef, undef, undef], defers := [] }) ?_ ?_ ?_ ?_
  · rintro pre A B ⟨h1, h2, h3, h4, h5⟩ hA hT
    exact ⟨(hT.cell (by omega) (by omega)).trans h1, (hT.cell (by omega) (by omega)).trans h2, h3.at_ (hT.block _ (by omega) (by omega) (by omega)), h4.at_ (hT.block _ (by omega) (by omega) (by omega)), hT.below h5 (by omega) (by omega)⟩
  · rintro c pre A B ⟨h0, h1, h2, h4, h5⟩ hA hT
    exact ⟨h0, h1, (hT.cell (by omega) (by omega)).trans h2, h4.at_ (hT.block _ (by omega) (by omega) (by omega)), hT.below h5 (by omega) (by omega)⟩
  · intro W hW
    exact ⟨(hW.cells.1 _ _ (by omega)).trans hc5, (hW.cells.1 _ _ (by omega)).trans hc6, HI16.out.ext hW, HI26.out.ext hW, HE6.out.trans hW⟩
  · intro m l v W K hK
    clear hz4 hz5 hz6 hwz
    gi_wp2
    exact hK
  · rintro m l pre x v W ⟨h1, h2, h3, h4, h5⟩ hv hpre hlt
    have hx : x ∈ truthsL (sp.zip [s0, s1, s2, s3, s4]) := by
      obtain ⟨q, hq⟩ := hpre
      rw [← hq]; simp
    obtain ⟨hxl, hxb⟩ := truthsL_mem hx
    have hxl' : x.length = sp.length := by rw [hxl, List.length_zip]; simp; omega
    have HSM := Lib.hid (show Small x from fun n hn => by
      obtain ⟨y, hy, h6, h7⟩ := hxb n hn
      have := hbd y.1 (List.of_mem_zip hy).1
      omega)
    have HXL := Lib.hid (show 0 < x.length ∧ x.length ≤ 1000 by omega)
    have HKB := Lib.hid (kindL_bd x)
    have HV := Lib.hid hv; have H3 := Lib.hid h3; have H4 := Lib.hid h4; have H5 := Lib.hid h5; have HLT := Lib.hid hlt; have HPR := Lib.hid hpre
    have q1 : W4.heap.size < W.heap.size := by omega
    have q2 : W5.heap.size < W.heap.size := by omega
    clear hz4 hz5 hz6 hwz hx hxl hxb hxl' hv h3 h4 h5 hlt hpre
    have HNE := Lib.hid (show w.heap.size + 2 ≠ W4.heap.size + 1 by have := HZ4.out; omega)
    have HN1 := Lib.hid (show w.heap.size ≤ w.heap.size + 2 by omega)
    have HN2 := Lib.hid (show w.heap.size ≤ W4.heap.size + 1 by have := HZ4.out; omega)
    have HB1 := Lib.hid (show W4.heap.size ≠ w.heap.size + 2 ∧ W4.heap.size ≠ W4.heap.size + 1 by have := HZ4.out; omega)
    have HB2 := Lib.hid (show W5.heap.size ≠ w.heap.size + 2 ∧ W5.heap.size ≠ W4.heap.size + 1 by have := HZ4.out; have := HZ5.out; omega)
    have HB3 := Lib.hid (show w6.heap.size ≠ w.heap.size + 2 ∧ w6.heap.size ≠ W4.heap.size + 1 ∧ w6.heap.size + 1 ≠ w.heap.size + 2 ∧ w6.heap.size + 1 ≠ W4.heap.size + 1 by have := HZ4.out; have := HZ5.out; have := HZ6.out; omega)
    by_cases hall : kindsOf (pre ++ [x]) = S4.all
    · have HALL := Lib.hid hall
      have HNU := Lib.hid (show (((kindsOf pre).add (kindL x)).not.num : Int) = 0 by rw [← kindsOf_snoc, hall]; rfl)
      clear hall
      gi_wp2_with fail
      refine ⟨trivial, wide_depth _, ?_⟩
      refine (CallsIn.inRound l (callsIn_wide.2 (kind_any x v _ HV.out HXL.out.1 HXL.out.2 HSM.out))).mono ?_
      rintro e W1 ⟨rfl, hE⟩
      obtain ⟨W2, W3, rr2, rr3, rr4, j1, j2, kb2, kb3, hkp⟩ := round_maps (n₀ := w.heap.size) (X := fun _ => False) (H3.out.ext hE) (H4.out.ext hE) HNE.out HKB.out.1 HKB.out.2 HN1.out HN2.out
      rw [HNU.out] at rr4
      have sE := hE.size
      have o1 := (hE.cells.1 _ _ q1).trans h1
      have o2 := (hE.cells.1 _ _ q2).trans h2
      have p1 := (World.cell?_of_block (a := ⟨W4.heap.size, 0, none⟩) (kb2 W4.heap.size (by omega) HB1.out.1 HB1.out.2)).trans o1
      have p3 := (World.cell?_of_block (a := ⟨W4.heap.size, 0, none⟩) (kb3 W4.heap.size (by omega) HB1.out.1 HB1.out.2)).trans o1
      have HJ1 := Lib.hid j1
      have HJ2 := Lib.hid j2
      have HKB3 := Lib.hid kb3
      have HKP := Lib.hid hkp
      have HEE := Lib.hid hE
      clear j1 j2 kb2 kb3 hkp hE h1 h2
      gi_wp2
      have hlt := HLT.out
      have hwn := HE6.out.size
      have d0 : W3.heap[w6.heap.size]? = W.heap[w6.heap.size]? := (HKB3.out w6.heap.size (by omega) HB3.out.1 HB3.out.2.1).trans (HEE.out.block _ (by omega))
      have d1 : W3.heap[w6.heap.size + 1]? = W.heap[w6.heap.size + 1]? := (HKB3.out (w6.heap.size + 1) (by omega) HB3.out.2.2.1 HB3.out.2.2.2).trans (HEE.out.block _ (by omega))
      have d6 : W3.cell? ⟨W5.heap.size, 0, none⟩ = some (.map (some (W4.heap.size + 1))) := (World.cell?_of_block (a := ⟨W5.heap.size, 0, none⟩) (HKB3.out W5.heap.size (by omega) HB2.out.1 HB2.out.2)).trans o2
      have dw : w.heap.size ≤ W.heap.size := H5.out.size
      have dk : Keep w.heap.size (fun _ => False) W W3 := (Keep.ext HEE.out dw).trans HKP.out
      exact ⟨d0, d1, rfl, HALL.out, d6, by rw [kindsOf_snoc]; exact HJ2.out, H5.out.trans dk.b⟩
    · have HNU := Lib.hid (show (((kindsOf pre).add (kindL x)).not.num : Int) = (((kindsOf (pre ++ [x])).not.num : Nat) : Int) by rw [← kindsOf_snoc])
      have hnn : ¬ ((((kindsOf (pre ++ [x])).not.num : Nat) : Int) = 0) := by
        intro h; exact hall ((S4.not_num _).1 (by omega))
      have hnb : ((((kindsOf (pre ++ [x])).not.num : Nat) : Int) == 0) = false := by simpa using hnn
      clear hall
      gi_wp2_with fail
      refine ⟨trivial, wide_depth _, ?_⟩
      refine (CallsIn.inRound l (callsIn_wide.2 (kind_any x v _ HV.out HXL.out.1 HXL.out.2 HSM.out))).mono ?_
      rintro e W1 ⟨rfl, hE⟩
      obtain ⟨W2, W3, rr2, rr3, rr4, j1, j2, kb2, kb3, hkp⟩ := round_maps (n₀ := w.heap.size) (X := fun _ => False) (H3.out.ext hE) (H4.out.ext hE) HNE.out HKB.out.1 HKB.out.2 HN1.out HN2.out
      rw [HNU.out] at rr4
      have sE := hE.size
      have o1 := (hE.cells.1 _ _ q1).trans h1
      have o2 := (hE.cells.1 _ _ q2).trans h2
      have p1 := (World.cell?_of_block (a := ⟨W4.heap.size, 0, none⟩) (kb2 W4.heap.size (by omega) HB1.out.1 HB1.out.2)).trans o1
      have p3 := (World.cell?_of_block (a := ⟨W4.heap.size, 0, none⟩) (kb3 W4.heap.size (by omega) HB1.out.1 HB1.out.2)).trans o1
      have HJ1 := Lib.hid j1
      have HJ2 := Lib.hid j2
      have HKB3 := Lib.hid kb3
      have HKP := Lib.hid hkp
      have HEE := Lib.hid hE
      clear j1 j2 kb2 kb3 hkp hE h1 h2
      gi_wp2
      have hlt := HLT.out
      have hwn := HE6.out.size
      have d0 : W3.heap[w6.heap.size]? = W.heap[w6.heap.size]? := (HKB3.out w6.heap.size (by omega) HB3.out.1 HB3.out.2.1).trans (HEE.out.block _ (by omega))
      have d1 : W3.heap[w6.heap.size + 1]? = W.heap[w6.heap.size + 1]? := (HKB3.out (w6.heap.size + 1) (by omega) HB3.out.2.2.1 HB3.out.2.2.2).trans (HEE.out.block _ (by omega))
      have d6 : W3.cell? ⟨W5.heap.size, 0, none⟩ = some (.map (some (W4.heap.size + 1))) := (World.cell?_of_block (a := ⟨W5.heap.size, 0, none⟩) (HKB3.out W5.heap.size (by omega) HB2.out.1 HB2.out.2)).trans o2
      have dw : w.heap.size ≤ W.heap.size := H5.out.size
      have dk : Keep w.heap.size (fun _ => False) W W3 := (Keep.ext HEE.out dw).trans HKP.out
      exact ⟨dk, d0, d1, p3, d6, by rw [kindsOf_snoc]; exact HJ1.out, by rw [kindsOf_snoc]; exact HJ2.out, H5.out.trans dk.b⟩
  · rintro W ⟨h1, h2, h3, h4, h5⟩ hlt hK
    clear hz4 hz5 hz6 hwz
    go_wp2
    refine ⟨by simp, .inl ⟨_, _, rfl, run_takeDeferred hK, ?_⟩⟩
    have hne : W4.heap.size + 1 ≠ w6.heap.size := by have := HZ5.out; have := HZ6.out; omega
    refine ⟨.map (some (W4.heap.size + 1)), by simp [results, Tryz.results102, go_sem], _, rfl, h4.at_ (World.putObj_heap_other hne), ?_⟩
    exact Turn.below h5 (Turn.put0 (s := w6.heap.size) _ _) (by have := HE6.out.size; omega) h5.size
  · rintro c pre W hpre ⟨rfl, h1, h2, h4, h5⟩ hlt hK
    clear hz4 hz5 hz6 hwz
    go_wp2
    refine ⟨by simp, .inl ⟨_, _, rfl, run_takeDeferred hK, ?_⟩⟩
    have hne : W4.heap.size + 1 ≠ w6.heap.size := by have := HZ5.out; have := HZ6.out; omega
    refine ⟨.map (some (W4.heap.size + 1)), by simp [results, Tryz.results102, go_sem], _, rfl, by rw [kindsOf_all hpre h1, ← h1]; exact h4.at_ (World.putObj_heap_other hne), ?_⟩
    exact Turn.below h5 (Turn.put0 (s := w6.heap.size) _ _) (by have := HE6.out.size; omega) h5.size
end Go.Proofs.YtkpengeaolcjhaaGreatDoor
/- The reference's kinds: a recursion that notes each kind in an array. -/
namespace Go.Proofs.YtkpengeaolcjhaaGreatDoor
open Go.RowKit Go.Shelf Go.Lib
set_option maxRecDepth 100000
set_option linter.unusedSimpArgs false

abbrev flagsV (s : S4) : Array Value := #[.bool false, .bool s.a, .bool s.b, .bool s.c, .bool s.d]
def rk (s : S4) (ls : List (List Int)) : S4 := ls.foldl (fun s l => s.add (kindR l)) s
theorem rk_append (s : S4) (a b : List (List Int)) : rk s (a ++ b) = rk (rk s a) b := by unfold rk; rw [List.foldl_append]
theorem rk_all : ∀ ls : List (List Int), rk S4.all ls = S4.all
  | [] => rfl
  | l :: ls => by show rk (S4.all.add (kindR l)) ls = _; rw [S4.add_all]; exact rk_all ls
theorem kindR_bd (l : List Int) : kindR l = 1 ∨ kindR l = 2 ∨ kindR l = 3 ∨ kindR l = 4 := by
  unfold kindR
  repeat' split
  all_goals simp
theorem Sl.grown {α : Type} {enc : α → List Value} {sz ob : Nat} {W W' : World} {A : Option Addr} {n c : Nat} {l : List α} (h : Sl enc sz W (.slice A n c) l) (hg : W.grownBy W' (some ob)) (hA : ∀ b o, A = some ⟨b, o, none⟩ → b ≠ ob) : Sl enc sz W' (.slice A n c) l := by
  obtain ⟨a', c', hv, hl, hc, hcell⟩ := h
  injection hv with e1 e2 e3
  subst e1 e2 e3
  refine ⟨_, _, rfl, hl, hc, fun h0 => ?_⟩
  obtain ⟨b, off, hA', hb, hcell⟩ := hcell h0
  have hne := hA _ _ hA'
  exact ⟨b, off, hA', Nat.lt_of_lt_of_le hb hg.size, fun i x hi j u hu => (World.cell?_of_block (a := ⟨b, _, none⟩) (hg.block b hb (by intro e; injection e with e; exact hne e))).trans (hcell i x hi j u hu)⟩
theorem grown_trans {a b c : World} {r : Nat} (h : a.grownBy b (some r)) (k : b.grownBy c (some r)) : a.grownBy c (some r) :=
  ⟨k.os.trans h.os, k.tape.trans h.tape, k.output.trans h.output, Nat.le_trans h.size k.size, fun i hi hn => (k.block i (Nat.lt_of_lt_of_le hi h.size) hn).trans (h.block i hi hn)⟩

set_option maxHeartbeats 2000000 in
theorem rkinds_leaf (sv : Value) (sp : List Span) (bb off cs ob : Nat) (hsv : sv = .slice (some ⟨bb, off, none⟩) sp.length cs) (g : List Int) (A : Option Addr) (c : Nat) (s : S4) (W : World) (hg : g.length = sp.length) (h0 : 0 < g.length) (hlen : g.length ≤ 1000)
    (hs : SlI W (.slice A g.length c) g) (hb : ∀ n ∈ g, 1 ≤ n ∧ n ≤ 9) (hB : Blk W ob 202 (flagsV s)) :
    Calls Tryz.prog 153 #[sv, .slice A g.length c, .pointer (some ⟨ob, 0, none⟩)] W fun e W' => (∃ v, e = .returned v) ∧ W.grownBy W' (some ob) ∧ Blk W' ob 202 (flagsV (s.add (kindR g))) := by
  subst hsv
  have HS := Lib.hid hs; have HB := Lib.hid hB; have H0 := Lib.hid h0; have HL := Lib.hid hlen; have HBD := Lib.hid hb
  clear hs hB hb
  generalize hgl : g.length = n at *
  have hn' : (n : Int) = (sp.length : Int) := by omega
  have HGL := Lib.hid hgl
  clear h0 hlen hgl hg
  have hK := kindR_bd g
  generalize hkg : kindR g = k at hK ⊢
  have HK := Lib.hid hkg
  clear hkg
  go_enter Tryz.func153, Tryz.ntmps153
  rcases hK with rfl | rfl | rfl | rfl
  all_goals go_wp2
  all_goals
    refine wp_region_tame_cut (fun V => Ext W V) (fun W W' => Ext W W') (by kernel_rfl) 64 rfl _ rfl (by decide +kernel) (by decide +kernel) (by decide +kernel) rfl (Ext.refl _).drew ?_
    simp only [List.dropLast]
    repeat (apply tame_q rfl; (intro ρ W hC hr hD; (obtain ⟨hrc, hrg, hrf, hrs⟩ := hr); (simp [go_sem] at hD); go_simp; first | exact ⟨⟨hC, Ext.refl _⟩, rfl⟩ | exact ⟨⟨hC, RS.refl _⟩, rfl⟩ | exact rfl); simp only [List.nil_append, List.cons_append])
    apply tame_q (v0 := .int .i64 (kindR g)) rfl
    · intro ρ V hC hr hD
      obtain ⟨hrc, hrg, hrf, hrs⟩ := hr
      simp [go_sem] at hD
      go_simp
      refine (kindR_any g _ _ (HS.out.ext hC) (HGL.out ▸ H0.out) (HGL.out ▸ HL.out) HBD.out).mono ?_
      rintro e w' ⟨rfl, hE⟩
      exact ⟨_, rfl, ⟨hC.trans hE, hE⟩, rfl⟩
    simp only [List.nil_append, List.cons_append, HK.out]
    repeat (apply tame_q rfl; (intro ρ W hC hr hD; (obtain ⟨hrc, hrg, hrf, hrs⟩ := hr); (simp [go_sem] at hD); go_simp; first | exact ⟨⟨hC, Ext.refl _⟩, rfl⟩ | exact ⟨⟨hC, RS.refl _⟩, rfl⟩ | exact rfl); simp only [List.nil_append, List.cons_append])
    refine tame_end 64 rfl rfl (fun ρ V hC hr hF => ?_)
    obtain ⟨hrc, hrg, hrf, hrs⟩ := hr
    simp [go_sem] at hF
    apply frame_to
    · go_simp
      exact rfl
    clear hF hrs hrc hrg hrf
    have HBV := Lib.hid (HB.out.ext hC)
    have b0 := HBV.out.cell 0
    have b1 := HBV.out.cell 1
    have b2 := HBV.out.cell 2
    have b3 := HBV.out.cell 3
    have b4 := HBV.out.cell 4
    have bf := HBV.out.frozen
    have bl := HBV.out.lt
    simp at b0 b1 b2 b3 b4
    have HCV := Lib.hid hC; clear hC
    go_wp2
    refine bodyPost_ret (results_none rfl _ _ _) rfl ?_
  · exact ⟨⟨_, rfl⟩, grown_set (grown_ext (World.grownBy.refl _ _) HCV.out) (.inl rfl) _, by have := HBV.out.set_ 1 (.bool true); simpa [S4.add] using this⟩
  · exact ⟨⟨_, rfl⟩, grown_set (grown_ext (World.grownBy.refl _ _) HCV.out) (.inl rfl) _, by have := HBV.out.set_ 2 (.bool true); simpa [S4.add] using this⟩
  · exact ⟨⟨_, rfl⟩, grown_set (grown_ext (World.grownBy.refl _ _) HCV.out) (.inl rfl) _, by have := HBV.out.set_ 3 (.bool true); simpa [S4.add] using this⟩
  · exact ⟨⟨_, rfl⟩, grown_set (grown_ext (World.grownBy.refl _ _) HCV.out) (.inl rfl) _, by have := HBV.out.set_ 4 (.bool true); simpa [S4.add] using this⟩

def zOf (sp : List Span) : List (Span × Int) := sp.map fun x => (x, 0)
theorem zOf_drop {sp : List Span} {n : Nat} {x : Span} (h : sp[n]? = some x) : (zOf sp).drop n = (x, 0) :: (zOf sp).drop (n + 1) := by
  obtain ⟨hl, he⟩ := List.getElem?_eq_some_iff.1 h
  have hl' : n < (zOf sp).length := by simpa [zOf] using hl
  rw [← List.getElem_cons_drop hl']
  simp [zOf, he]

theorem wpList_copy {ops : Array Oper} {rest : List Oper} {o : Oper} {a : Act} {Q : Exit → Act → World → Prop} {W : World} (hgd : o.guard = none) (s x : Operand)
    (ho : o.op = .call { callee := .builtin .append, args := #[s, x], argTypes := #[36, 36] }) {base g : Nat} (hs : a.eval s = .slice (some ⟨g, 0, none⟩) 0 0) {v : Value} (hx : a.eval x = v)
    (hB : Blk W g 3 #[]) (hg : base ≤ g) (hW : base ≤ W.heap.size) {l : List Int} (hl : SlI W v l) (hlen : l.length ≤ 1000)
    (h : ∀ v' W', Own encI 3 1 W' base v' l → Ext W W' → wpList Tryz.prog ops Q rest (a.put o.dst v') W') : wpList Tryz.prog ops Q (o :: rest) a W := by
  obtain ⟨v', W', hr, h1, h2⟩ := run_copy (t := 36) (ty := o.type) (enc := encI) (sz := 1) Tryz.underlying36 info3x rfl (by decide) (by decide) (fun _ => rfl) hB hg hW hl hlen
  refine wpList_plain hgd fun K hK => ?_
  unfold Oper.wp execOp
  simp only [ho, resolve, invoke, builtin, Sem.run_bind, Sem.run_pure, Result.andThen_ok, List.map_toArray, List.map_cons, List.map_nil, hs, hx, hr]
  exact hK _ _ (h v' W' h1 h2)

set_option maxHeartbeats 4000000 in
theorem rkinds_any {sp : List Span} {bb off cs ob : Nat} (hsp : sp.length ≤ 1000) (hbd : ∀ x ∈ sp, 1 ≤ x.lo ∧ x.lo ≤ 1000 ∧ x.hi ≤ 9) (hbo : bb ≠ ob) :
    ∀ (k : Nat) (g : List Int) (A : Option Addr) (c : Nat) (s : S4) (W₀ : World), g.length + k = sp.length → 0 < sp.length → SlI W₀ (.slice A g.length c) g → (∀ b o, A = some ⟨b, o, none⟩ → b ≠ ob) → SlS W₀ (.slice (some ⟨bb, off, none⟩) sp.length cs) sp → (∀ n ∈ g, 1 ≤ n ∧ n ≤ 9) → Blk W₀ ob 202 (flagsV s) →
      Calls Tryz.prog 153 #[.slice (some ⟨bb, off, none⟩) sp.length cs, .slice A g.length c, .pointer (some ⟨ob, 0, none⟩)] W₀ fun e W' => (∃ v, e = .returned v) ∧ W₀.grownBy W' (some ob) ∧ Blk W' ob 202 (flagsV (rk s (exts g ((zOf sp).drop g.length)))) := by
  intro k
  induction k with
  | zero =>
    intro g A c s W₀ hg h0 hs hA hS hb hB
    have hd : (zOf sp).drop g.length = [] := List.drop_eq_nil_of_le (by simp [zOf]; omega)
    have he : exts g ((zOf sp).drop g.length) = [g] := by rw [hd]; simp [exts, truthsL]
    rw [he]
    exact rkinds_leaf _ sp bb off cs ob rfl g A c s W₀ (by omega) (by omega) (by omega) hs hb hB
  | succ k ih =>
    intro g A c s W₀ hg h0 hs hA hS hb hB
    have hat : g.length < sp.length := by omega
    obtain ⟨x, hx⟩ : ∃ x, sp[g.length]? = some x := ⟨_, List.getElem?_eq_getElem hat⟩
    have hdr := zOf_drop hx
    have hbx := hbd x (List.mem_of_getElem? hx)
    generalize hr : (zOf sp).drop (g.length + 1) = r at hdr
    rw [hdr]
    have hex : exts g ((x, 0) :: r) = doneTo g (x, 0) r (x.hi - x.lo + 1).toNat := exts_cons g (x, 0) r
    rw [hex]
    generalize hN : (x.hi - x.lo + 1).toNat = N
    obtain ⟨A', c', hv0, hlc, hcm, _⟩ := id hs
    injection hv0 with e1 e2 e3
    subst e1 e3
    generalize hgl : g.length = n at *
    have HS := Lib.hid hs; have HB := Lib.hid hB; have HSP := Lib.hid hS; have IH := Lib.hid ih; have HA := Lib.hid hA; have HBD := Lib.hid hb; have H00 := Lib.hid h0
    have HR := Lib.hid hr; have HGL := Lib.hid hgl
    obtain ⟨bb', off', x', e1, hx', hbl, hxc⟩ := hS.at_ hat
    injection e1 with e1
    injection e1 with e1 e2
    subst e1 e2
    obtain rfl : x' = x := by rw [hx] at hx'; injection hx' with h; exact h.symm
    have hatz : (n : Int) < (sp.length : Int) := by omega
    have hne : ¬ ((n : Int) = (sp.length : Int)) := by omega
    have hnz : (0 : Int) ≤ (n : Int) := by omega
    have hn1000 : n ≤ 1000 := by omega
    have HXC := Lib.hid hxc; have HXX := Lib.hid hx'
    clear hs hB hS ih hA hb hr hgl hdr hex hbd hxc hx' h0
    obtain ⟨c0, c1⟩ := SlS.cells HXC.out (Ext.refl _)
    have b0 := HB.out.cell 0
    have b1 := HB.out.cell 1
    have b2 := HB.out.cell 2
    have b3 := HB.out.cell 3
    have b4 := HB.out.cell 4
    have bl := HB.out.lt
    simp at b0 b1 b2 b3 b4
    go_enter Tryz.func153, Tryz.ntmps153
    by_cases hall : s = S4.all
    · subst hall
      simp only [S4.all] at b1 b2 b3 b4
      go_wp2
      refine bodyPost_ret (results_none rfl _ _ _) rfl ?_
      exact ⟨⟨_, rfl⟩, World.grownBy.refl _ _, by rw [rk_all]; exact HB.out⟩
    have HALL := Lib.hid hall; clear hall
    have hsplit : s.a = false ∨ (s.a = true ∧ s.b = false) ∨ (s.a = true ∧ s.b = true ∧ s.c = false) ∨ (s.a = true ∧ s.b = true ∧ s.c = true ∧ s.d = false) := by
      obtain ⟨x, y, z, u⟩ := s
      have := HALL.out
      cases x <;> cases y <;> cases z <;> cases u <;> simp_all [S4.all]
    rcases hsplit with h1 | ⟨h1, h2⟩ | ⟨h1, h2, h3⟩ | ⟨h1, h2, h3, h4⟩
    all_goals rw [h1] at b1
    all_goals (try rw [h2] at b2)
    all_goals (try rw [h3] at b3)
    all_goals (try rw [h4] at b4)
    all_goals (try clear h2)
    all_goals (try clear h3)
    all_goals (try clear h4)
    all_goals clear h1 HALL
    all_goals
      go_wp2
      clear b0 b1 b2 b3 b4 bl c0 c1
      go_loopg [6] N (fun gg s6 wr => ∃ q : Nat, q ≤ N ∧ N - q ≤ gg ∧ s6 = .int .i64 (x'.lo + (q : Int)) ∧ Aside (W₀.grownBy wr (some ob)) ∧ Aside (Blk wr ob 202 (flagsV (rk s (doneTo g (x', 0) r q)))))
      case atStart => exact ⟨0, by omega, by omega, by simp, World.grownBy.refl _ _, by show Blk _ _ _ _; simpa [doneTo, gTo, rk] using HB.out⟩
      case round =>
        obtain ⟨q, hq, hgg, rfl, HGR, HBL⟩ := hrel
        have HSW := Lib.hid (HSP.out.grown HGR.out (fun b o e => by injection e with e; injection e with e1 e2; rw [← e1]; exact hbo))
        have hxw : SlS wr (.slice (some ⟨bb, off, none⟩) sp.length cs) sp := HSW.out
        obtain ⟨bb', off', x2, e1, hx2, hbl2, hxc2⟩ := hxw.at_ hat
        have hnx : x2 = x' := by
          have := HXX.out
          rw [hx2] at this; injection this
        injection e1 with e1
        injection e1 with e1 e2
        subst e1 e2 hnx
        have c01 := SlS.cells hxc2 (Ext.refl _)
        obtain ⟨c0, c1⟩ := c01
        clear hxw hxc2
        by_cases hqN : q < N
        · have hle : x2.lo + (q : Int) ≤ x2.hi := by omega
          clear hbl2 hx2
          go_wp2_with (at_builtin; refine wpList_copy rfl (.tmp 56) (.tmp 57) rfl (base := wr.heap.size) (g := wr.heap.size) rfl rfl (Blk.new _ _ _) (Nat.le_refl _) (by simp) ((HS.out.grown HGR.out HA.out).ext (Ext.al _ _)) (by have := HGL.out; omega) ?_)
          intro v1 w1 hown hext
          have HO1 := Lib.hid hown; have HE1 := Lib.hid (show Ext wr w1 from (Ext.al _ _).trans hext); clear hown hext
          go_wp2_with (at_builtin; refine wpList_app encI 36 3 1 _ 8 Tryz.underlying36 info3x rfl (by decide) (by decide) (fun _ => rfl) encI_one rfl (.tmp 58) (.tmp 60) rfl wr.heap.size _ g rfl (HO1.out.alloc _) w1.heap.size 1 (x2.lo + (q : Int)) rfl (cells1 (by simp [go_sem])) (by have := HGL.out; omega) (by have := HE1.out.size; simp; omega) ?_)
          intro g' cap w6 hown2 hg2 hbel _
          have HE6 := Lib.hid (show Ext wr w6 from Below.trans (HE1.out.alloc _) hbel)
          have e1 : (g ++ [x2.lo + (q : Int)]).length = n + 1 := by simp [HGL.out]
          have H := IH.out (g ++ [x2.lo + (q : Int)]) (some ⟨g', 0, none⟩) cap (rk s (doneTo g (x2, 0) r q)) w6 (by rw [e1]; omega) H00.out (by rw [e1]; have := (show SlI w6 _ _ from Own.sl (enc := encI) (fun _ => rfl) hown2); rw [HGL.out] at this; exact this)
            (fun b o e => by injection e with e; injection e with e2 e3; rw [← e2]; have := HBL.out.lt; omega) (HSW.out.ext HE6.out)
            (fun m hm => by rcases List.mem_append.1 hm with hm | hm
                            · exact HBD.out m hm
                            · simp at hm; omega) (HBL.out.ext HE6.out)
          rw [e1, HR.out] at H
          rw [HGL.out]
          have HD1 := Lib.hid (show doneTo g (x2, 0) r (q + 1) = doneTo g (x2, 0) r q ++ exts (g ++ [x2.lo + (q : Int)]) r by rw [doneTo_succ]; simp [])
          clear e1 hown2 hg2 hbel
          go_wp2_with (go_at_call 153; refine H.mono ?_; clear H; rintro e w' ⟨⟨v, rfl⟩, g1, g2⟩)
          rw [← rk_append, ← HD1.out] at g2
          have HG2 := Lib.hid g2
          have HG1 := Lib.hid (grown_trans (grown_ext HGR.out HE6.out) g1)
          clear g1 g2
          go_wp2
          go_roundg (N - (q + 1))
          case measure => omega
          case rel => exact ⟨q + 1, by omega, by omega, by simp; omega, HG1.out, HG2.out⟩
        · have hqe : q = N := by omega
          subst hqe
          have hgt : x2.hi < x2.lo + (q : Int) := by omega
          go_wp2
          go_end0
          exact ⟨⟨_, rfl⟩, HGR.out, HBL.out⟩
end Go.Proofs.YtkpengeaolcjhaaGreatDoor
/- The reference's many: how many kinds, and which. -/
namespace Go.Proofs.YtkpengeaolcjhaaGreatDoor
open Go.RowKit Go.Shelf Go.Lib
set_option maxRecDepth 100000
set_option linter.unusedSimpArgs false

def S4.flag (s : S4) : Nat → Bool
  | 1 => s.a
  | 2 => s.b
  | 3 => s.c
  | 4 => s.d
  | _ => false
def S4.upTo (s : S4) : Nat → Nat
  | 0 => 0
  | k + 1 => s.upTo k + (if s.flag k then 1 else 0)
theorem S4.upTo_le (s : S4) : ∀ k, s.upTo k ≤ k
  | 0 => Nat.le_refl _
  | k + 1 => by have := S4.upTo_le s k; unfold S4.upTo; split <;> omega
theorem S4.upTo5 (s : S4) : s.upTo 5 = s.num := by
  obtain ⟨a, b, c, d⟩ := s
  cases a <;> cases b <;> cases c <;> cases d <;> rfl
theorem flagsV_at (s : S4) {k : Nat} (h : k < 5) : (flagsV s)[k]? = some (.bool (s.flag k)) := by
  obtain rfl | rfl | rfl | rfl | rfl : k = 0 ∨ k = 1 ∨ k = 2 ∨ k = 3 ∨ k = 4 := by omega
  all_goals rfl

theorem idx_flag (s : S4) {k : Nat} (h : k < 5) (W : World) : (Instr.index 202 (.agg #[.bool false, .bool s.a, .bool s.b, .bool s.c, .bool s.d]) (.int .i64 (k : Int))).run Tryz.prog W = .ok (.bool (s.flag k)) W := by
  obtain rfl | rfl | rfl | rfl | rfl : k = 0 ∨ k = 1 ∨ k = 2 ∨ k = 3 ∨ k = 4 := by omega
  all_goals rfl
abbrev set5 (W : World) (g : Nat) (y0 y1 y2 y3 y4 : Value) : World :=
  ((((W.setCell ⟨g, 0, none⟩ y0).setCell ⟨g, 1, none⟩ y1).setCell ⟨g, 2, none⟩ y2).setCell ⟨g, 3, none⟩ y3).setCell ⟨g, 4, none⟩ y4
theorem Blk.set5 {W : World} {g : Nat} {t : TypeId} {x0 x1 x2 x3 x4 : Value} (h : Blk W g t #[x0, x1, x2, x3, x4]) (y0 y1 y2 y3 y4 : Value) : Blk (set5 W g y0 y1 y2 y3 y4) g t #[y0, y1, y2, y3, y4] := by
  have := ((((h.set_ 0 y0).set_ 1 y1).set_ 2 y2).set_ 3 y3).set_ 4 y4
  simpa using this
theorem grown_set5 (W : World) (g : Nat) (y0 y1 y2 y3 y4 : Value) : W.grownBy (set5 W g y0 y1 y2 y3 y4) (some g) :=
  grown_set (grown_set (grown_set (grown_set (grown_set (World.grownBy.refl _ _) (p := ⟨g, 0, none⟩) (.inl rfl) y0) (p := ⟨g, 1, none⟩) (.inl rfl) y1) (p := ⟨g, 2, none⟩) (.inl rfl) y2) (p := ⟨g, 3, none⟩) (.inl rfl) y3) (p := ⟨g, 4, none⟩) (.inl rfl) y4
theorem ret_set5 {P : Program} {fn : Func} {R : Ending → World → Prop} {ex : Exit} {a : Act} {w1 : World} {g : Nat} {t : TypeId} {x0 x1 x2 x3 x4 y0 y1 y2 y3 y4 : Value} (hB : Blk w1 g t #[x0, x1, x2, x3, x4])
    (h : ∀ W, (W.cell? ⟨g, 0, none⟩ = some y0 ∧ W.cell? ⟨g, 1, none⟩ = some y1 ∧ W.cell? ⟨g, 2, none⟩ = some y2 ∧ W.cell? ⟨g, 3, none⟩ = some y3 ∧ W.cell? ⟨g, 4, none⟩ = some y4) → w1.grownBy W (some g) → bodyPost P fn R ex a W) :
    bodyPost P fn R ex a (((((w1.setCell ⟨g, 0, none⟩ y0).setCell ⟨g, 1, none⟩ y1).setCell ⟨g, 2, none⟩ y2).setCell ⟨g, 3, none⟩ y3).setCell ⟨g, 4, none⟩ y4) := by
  have K := hB.set5 y0 y1 y2 y3 y4
  exact h _ ⟨K.cell 0, K.cell 1, K.cell 2, K.cell 3, K.cell 4⟩ (grown_set5 ..)
theorem ext_grown5 {w w1 W : World} {g : Nat} (h : Ext w w1) (k : w1.grownBy W (some g)) (hg : w.heap.size ≤ g) : Ext w W :=
  ⟨k.os.trans h.os, k.tape.trans h.tape, k.output.trans h.output, Nat.le_trans h.size k.size, fun i hi => (k.block i (Nat.lt_of_lt_of_le hi h.size) (by intro e; injection e with e; omega)).trans (h.block i hi)⟩

set_option maxHeartbeats 4000000 in
theorem many_any {sp : List Span} {bb off cs : Nat} (w : World) (hsp : sp.length ≤ 1000) (h0 : 0 < sp.length) (hbd : ∀ x ∈ sp, 1 ≤ x.lo ∧ x.lo ≤ 1000 ∧ x.hi ≤ 9) (hs : SlS w (.slice (some ⟨bb, off, none⟩) sp.length cs) sp) :
    Calls Tryz.prog 131 #[.slice (some ⟨bb, off, none⟩) sp.length cs] w fun e W' => e = .returned (.tuple #[.int .i64 ((rk S4.none (exts [] (zOf sp))).num : Nat), .agg (flagsV (rk S4.none (exts [] (zOf sp))))]) ∧ Ext w W' := by
  have HS := Lib.hid hs; have HSP := Lib.hid hsp; have H0 := Lib.hid h0; have HBD := Lib.hid hbd
  obtain ⟨b, o, x, e1, hx, hb, hc⟩ := hs.at_ h0
  injection e1 with e1; injection e1 with e1 e2; subst e1 e2
  have hbb : bb ≠ w.heap.size + 1 := by omega
  have HBB := Lib.hid hbb
  clear hs hsp h0 hbd hx hc
  generalize hst : rk S4.none (exts [] (zOf sp)) = s
  have HST := Lib.hid hst; clear hst
  go_enter Tryz.func131, Tryz.ntmps131
  go_wp2_with fail
  have hB : Blk ((w.alloc (.cells #[.bool false, .bool false, .bool false, .bool false, .bool false] 202)).alloc (.cells #[.bool false, .bool false, .bool false, .bool false, .bool false] 202)) (w.heap.size + 1) 202 (flagsV S4.none) := by
    refine Blk.at_ ?_
    show _ = (w.heap.push _).size
    simp
  have hB2 : Blk ((w.alloc (.cells #[.bool false, .bool false, .bool false, .bool false, .bool false] 202)).alloc (.cells #[.bool false, .bool false, .bool false, .bool false, .bool false] 202)) w.heap.size 202 (flagsV S4.none) := (Blk.new _ _ _).alloc _
  have hE : Ext w ((w.alloc (.cells #[.bool false, .bool false, .bool false, .bool false, .bool false] 202)).alloc (.cells #[.bool false, .bool false, .bool false, .bool false, .bool false] 202)) := (Ext.al _ _).trans (Ext.al _ _)
  have hnil : ∀ W, SlI W (.slice none ([] : List Int).length 0) [] := fun W => ⟨_, _, rfl, by simp, by simp [maxLen], by simp⟩
  generalize hW : ((w.alloc (.cells #[.bool false, .bool false, .bool false, .bool false, .bool false] 202)).alloc (.cells #[.bool false, .bool false, .bool false, .bool false, .bool false] 202)) = W at hB hB2 hE ⊢
  have HW := Lib.hid hW; clear hW
  have HB0 := Lib.hid hB; have HE0 := Lib.hid hE; have HB2 := Lib.hid hB2; clear hB hE hB2
  refine (rkinds_any (ob := w.heap.size + 1) HSP.out HBD.out HBB.out sp.length [] none 0 S4.none W (by simp) H0.out (hnil W) (by simp) (HS.out.ext HE0.out) (by simp) HB0.out).mono ?_
  rintro e w' ⟨⟨v, rfl⟩, g1, g2⟩
  clear hnil
  rw [List.length_nil, List.drop_zero, HST.out] at g2
  have HB := Lib.hid g2
  have HB3 := Lib.hid (HB2.out.grown g1 (by simp))
  have HEW := Lib.hid (ext_grown5 HE0.out g1 (by omega))
  have b0 := HB.out.cell 0
  have b1 := HB.out.cell 1
  have b2 := HB.out.cell 2
  have b3 := HB.out.cell 3
  have b4 := HB.out.cell 4
  simp at b0 b1 b2 b3 b4
  clear g1 g2
  show _
  dsimp only
  go_wp2
  go_loopg [5, 7, 11] 5 (fun gg s5 _ s11 wr => ∃ q : Nat, q ≤ 5 ∧ 5 - q ≤ gg ∧ s11 = .int .i64 q ∧ s5 = .int .i64 ((s.upTo q : Nat) : Int) ∧ Aside (Ext w' wr))
  case atStart => exact ⟨0, by omega, by omega, rfl, rfl, Ext.refl _⟩
  case round =>
    obtain ⟨q, hq, hgg, rfl, rfl, HE⟩ := hrel
    by_cases hq5 : q < 5
    · have hqz : (q : Int) < 5 := by omega
      have HUP := Lib.hid (show s.upTo (q + 1) = s.upTo q + (if s.flag q then 1 else 0) from rfl)
      have hup := S4.upTo_le s q
      have hfl := idx_flag s hq5
      cases hf : s.flag q
      · rw [hf] at hfl
        go_wp2
        go_roundg (5 - (q + 1))
        case measure => omega
        case rel => exact ⟨q + 1, by omega, by omega, by simp, by rw [HUP.out, hf]; simp, HE.out⟩
      · rw [hf] at hfl
        go_wp2
        go_roundg (5 - (q + 1))
        case measure => omega
        case rel => exact ⟨q + 1, by omega, by omega, by simp, by rw [HUP.out, hf]; simp, HE.out⟩
    · have hqe : q = 5 := by omega
      subst hqe
      go_wp2
      have HBQ := Lib.hid (HB.out.ext HE.out); have HB3Q := Lib.hid (HB3.out.ext HE.out)
      have HEQ := Lib.hid (HEW.out.trans HE.out)
      clear b0 b1 b2 b3 b4
      have hx : ∀ i u, (flagsV s)[i]? = some u → ∀ W, Ext wr W → W.cell? ⟨w.heap.size + 1, i, none⟩ = some u := fun i u hu W hC => ((HBQ.out.ext hC).cell i).trans hu
      have k0 := hx 0 _ rfl; have k1 := hx 1 _ rfl; have k2 := hx 2 _ rfl; have k3 := hx 3 _ rfl; have k4 := hx 4 _ rfl
      clear hx
      refine wp_region_tame_cut (fun W => Ext wr W) (fun W W' => Ext W W') (by kernel_rfl) 20 rfl _ rfl (by decide +kernel) (by decide +kernel) (by decide +kernel) rfl (Ext.refl _).drew ?_
      simp only [List.dropLast]
      repeat (apply tame_q rfl; (intro ρ W hC hr hD; (obtain ⟨hrc, hrg, hrf, hrs⟩ := hr); (simp [go_sem] at hD); go_simp; first | exact ⟨⟨hC, Ext.refl _⟩, rfl⟩ | exact ⟨⟨hC, RS.refl _⟩, rfl⟩ | exact rfl); simp only [List.nil_append, List.cons_append])
      refine tame_end 20 rfl rfl (fun ρ W hC hr hF => ?_)
      obtain ⟨hrc, hrg, hrf, hrs⟩ := hr
      simp [go_sem] at hF
      apply frame_to
      · go_simp
        exact rfl
      clear hF hrs hrc hrg hrf k0 k1 k2 k3 k4
      have HBW := Lib.hid (HB3Q.out.ext hC)
      have HEC := Lib.hid (HEQ.out.trans hC)
      have t0 := HBW.out.cell 0
      have t1 := HBW.out.cell 1
      have t2 := HBW.out.cell 2
      have t3 := HBW.out.cell 3
      have t4 := HBW.out.cell 4
      have tf := HBW.out.frozen
      have tl := HBW.out.lt
      simp at t0 t1 t2 t3 t4
      clear hC
      go_wp2
      refine ret_set5 HBW.out fun W ⟨b0, b1, b2, b3, b4⟩ hW => ?_
      refine bodyPost_ret (v := .tuple #[.int .i64 ((s.upTo 5 : Nat) : Int), .agg (flagsV s)]) (by simp [results, Tryz.results131, go_sem, b0, b1, b2, b3, b4]) rfl ?_
      exact ⟨by rw [S4.upTo5], ext_grown5 HEC.out hW (Nat.le_refl _)⟩
end Go.Proofs.YtkpengeaolcjhaaGreatDoor
/- The plain law: the reference's kinds are core's. -/
namespace Go.Proofs.YtkpengeaolcjhaaGreatDoor
open Go.RowKit Go.Shelf
set_option linter.unusedSimpArgs false

theorem spanAt_bd (l : List Draw) (i : Int) (hd : ∀ x ∈ l, 1 ≤ x.grade.lo ∧ x.grade.lo ≤ x.grade.hi ∧ x.grade.hi ≤ 9) : 1 ≤ (spanAt l i).lo ∧ (spanAt l i).lo ≤ 9 ∧ (spanAt l i).hi ≤ 9 ∧ 1 ≤ (spanAt l i).hi := by
  unfold spanAt
  have : ∀ (l : List Draw) (s : Span), (∀ x ∈ l, 1 ≤ x.grade.lo ∧ x.grade.lo ≤ x.grade.hi ∧ x.grade.hi ≤ 9) → (1 ≤ s.lo ∧ s.lo ≤ 9 ∧ s.hi ≤ 9 ∧ 1 ≤ s.hi) → (1 ≤ (l.foldl (spanStep i) s).lo ∧ (l.foldl (spanStep i) s).lo ≤ 9 ∧ (l.foldl (spanStep i) s).hi ≤ 9 ∧ 1 ≤ (l.foldl (spanStep i) s).hi) := by
    intro l
    induction l with
    | nil => intro s _ h; exact h
    | cons x l ih =>
      intro s hd h
      rw [List.foldl_cons]
      refine ih _ (fun y hy => hd y (List.mem_cons_of_mem _ hy)) ?_
      have hx := hd x (List.mem_cons_self ..)
      unfold spanStep
      split
      · dsimp only; omega
      · exact h
  exact this l ⟨1, 9⟩ hd (by decide)
theorem spans_bd {b : Bale} (h : valid b = true) : ∀ x ∈ spans b, 1 ≤ x.lo ∧ x.lo ≤ 9 ∧ x.hi ≤ 9 ∧ 1 ≤ x.hi := by
  intro x hx
  have hB := valid_bds h
  unfold spans spansTo at hx
  rw [List.mem_map] at hx
  obtain ⟨i, _, rfl⟩ := hx
  exact spanAt_bd _ _ (fun y hy => by have := hB.d y hy; omega)

theorem foldl_max_ge : ∀ (l : List Int) (x : Int), x ≤ l.foldl max x ∧ ∀ y ∈ l, y ≤ l.foldl max x
  | [], x => ⟨by simp, by simp⟩
  | y :: l, x => by
    obtain ⟨h1, h2⟩ := foldl_max_ge l (max x y)
    refine ⟨by rw [List.foldl_cons]; omega, fun z hz => ?_⟩
    rw [List.foldl_cons]
    rcases List.mem_cons.1 hz with rfl | hz
    · omega
    · exact h2 z hz
theorem foldl_min_le : ∀ (l : List Int) (x : Int), l.foldl min x ≤ x ∧ ∀ y ∈ l, l.foldl min x ≤ y
  | [], x => ⟨by simp, by simp⟩
  | y :: l, x => by
    obtain ⟨h1, h2⟩ := foldl_min_le l (min x y)
    refine ⟨by rw [List.foldl_cons]; omega, fun z hz => ?_⟩
    rw [List.foldl_cons]
    rcases List.mem_cons.1 hz with rfl | hz
    · omega
    · exact h2 z hz
theorem max_eq {l : List Int} (h0 : 0 < l.length) {x : Int} (hx : ∀ y ∈ l, x ≤ y) : l.foldl max x = maxs l := by
  have h1 := foldl_max_ge l x
  have h2 := maxs_mem h0
  have h3 := foldl_max_ge l ((l[0]?).getD 0)
  have h4 : (l[0]?).getD 0 ∈ l := by rw [List.getElem?_eq_getElem h0]; exact List.getElem_mem _
  show _ = l.foldl max ((l[0]?).getD 0)
  rcases foldl_max_mem l x with e | e
  · have := h1.2 _ h4; have := hx _ h4; have := h1.2 _ h2
    unfold maxs at this
    omega
  · have := h3.2 _ e; have := h1.2 _ h2
    unfold maxs at this
    omega
theorem min_eq {l : List Int} (h0 : 0 < l.length) {x : Int} (hx : ∀ y ∈ l, y ≤ x) : l.foldl min x = mins l := by
  have h1 := foldl_min_le l x
  have h2 := mins_mem h0
  have h3 := foldl_min_le l ((l[0]?).getD 0)
  have h4 : (l[0]?).getD 0 ∈ l := by rw [List.getElem?_eq_getElem h0]; exact List.getElem_mem _
  show _ = l.foldl min ((l[0]?).getD 0)
  rcases foldl_min_mem l x with e | e
  · have := h1.2 _ h4; have := hx _ h4; have := h1.2 _ h2
    unfold mins at this
    omega
  · have := h3.2 _ e; have := h1.2 _ h2
    unfold mins at this
    omega
def Gr (l : List Int) : Prop := ∀ n ∈ l, 1 ≤ n ∧ n ≤ 9
theorem alike_eq {l : List Int} (h0 : 0 < l.length) (h : Gr l) : alikeR l = alikeL l := by
  unfold alikeR alikeL
  rw [max_eq h0 (fun y hy => (h y hy).1), min_eq h0 (fun y hy => (h y hy).2)]
theorem cut_eq {l : List Int} {k : Nat} (h1 : 1 ≤ k) (h2 : k < l.length) (h : Gr l) : cutR l k = cutAt l k := by
  unfold cutR cutAt
  rw [alike_eq (by simp; omega) (fun n hn => h n (List.mem_of_mem_take hn)), alike_eq (by simp; omega) (fun n hn => h n (List.mem_of_mem_drop hn))]
  simp [h1]
theorem cutsTo_pos {l : List Int} : ∀ m : Nat, 0 < (cutsTo l m).length ↔ ∃ k, k < m ∧ cutAt l k = true
  | 0 => by simp [cutsTo]
  | m + 1 => by
    rw [cutsTo, List.length_append]
    have ih := cutsTo_pos (l := l) m
    constructor
    · intro h
      by_cases hm : cutAt l m = true
      · exact ⟨m, by omega, hm⟩
      · rw [if_neg hm] at h
        obtain ⟨k, h1, h2⟩ := ih.1 (by simpa using h)
        exact ⟨k, by omega, h2⟩
    · rintro ⟨k, h1, h2⟩
      by_cases hk : k = m
      · subst hk; rw [if_pos h2]; simp
      · have := ih.2 ⟨k, by omega, h2⟩
        omega
theorem hasCut_eq {l : List Int} (h : Gr l) (ha : alikeL l = false) : hasCut l = decide (0 < (cutsL l).length) := by
  have h1 : cutsL l = cutsTo l l.length := by unfold cutsL; rw [ha]; rfl
  rw [h1, Bool.eq_iff_iff, decide_eq_true_eq, cutsTo_pos]
  unfold hasCut
  rw [List.any_eq_true]
  constructor
  · rintro ⟨k, hk, he⟩
    simp only [List.mem_range, Bool.and_eq_true, decide_eq_true_eq] at hk he
    exact ⟨k, hk, by rw [← cut_eq he.1 hk h]; exact he.2⟩
  · rintro ⟨k, hk, he⟩
    have h1 : 1 ≤ k := by unfold cutAt at he; simp at he; exact he.1
    exact ⟨k, by simpa using hk, by simp [h1, cut_eq h1 hk h, he]⟩
theorem any_lt {l : List Int} (h0 : 0 < l.length) (x : Int) : l.any (fun y => decide (y < x)) = !decide (x ≤ mins l) := by
  have h2 := mins_mem h0
  have h3 := foldl_min_le l ((l[0]?).getD 0)
  rw [Bool.eq_iff_iff, List.any_eq_true]
  simp only [decide_eq_true_eq, Bool.not_eq_true', decide_eq_false_iff_not]
  constructor
  · rintro ⟨y, hy, h⟩
    have := h3.2 _ hy
    unfold mins; omega
  · intro h
    exact ⟨_, h2, by omega⟩
theorem kindR_eq {l : List Int} (h0 : 0 < l.length) (h : Gr l) : kindR l = kindL l := by
  unfold kindR kindL
  rw [alike_eq h0 h]
  cases ha : alikeL l with
  | true => rfl
  | false =>
    rw [hasCut_eq h ha]
    by_cases hc : 0 < (cutsL l).length
    · simp [hc]
    · have hl := long_of h0 ha (by omega)
      simp only [hc, decide_false, Bool.false_eq_true, if_false]
      have hf : Gr [firstL l, lastL l] := by
        intro n hn
        have h1 : firstL l ∈ l := by unfold firstL; rw [List.getElem?_eq_getElem h0]; exact List.getElem_mem _
        have h2 : lastL l ∈ l := by unfold lastL; rw [List.getElem?_eq_getElem (by omega)]; exact List.getElem_mem _
        simp at hn
        rcases hn with rfl | rfl
        · exact h _ h1
        · exact h _ h2
      rw [alike_eq (by simp) hf]
      have hi0 : 0 < (innerL l).length := by unfold innerL; simp; omega
      have hsub : ∀ x ∈ innerL l, x ∈ l := fun x hx => List.mem_of_mem_drop (List.mem_of_mem_take hx)
      rw [any_lt hi0]
      cases hb : alikeL [firstL l, lastL l] with
      | false => simp
      | true =>
        by_cases hw : worseL l ≤ mins (innerL l)
        · have hm : (innerL l).foldl max 0 = maxs (innerL l) := max_eq hi0 (fun y hy => by have := h y (hsub y hy); omega)
          have hm2 : worseL l + 2 ≤ maxs (innerL l) ↔ worseL l + 2 ≤ maxs l := by
            have hmem : ∀ x ∈ l, x ≤ worseL l ∨ x ∈ innerL l := by
              intro x hx
              obtain ⟨i, hi, rfl⟩ := List.mem_iff_getElem.1 hx
              by_cases h1 : i = 0
              · subst h1; left; unfold worseL firstL; rw [List.getElem?_eq_getElem hi, Option.getD_some]; omega
              · by_cases h2 : i = l.length - 1
                · left; unfold worseL lastL; rw [← h2, List.getElem?_eq_getElem hi, Option.getD_some]; omega
                · right
                  unfold innerL
                  rw [List.mem_iff_getElem]
                  refine ⟨i - 1, by simp; omega, ?_⟩
                  rw [List.getElem_take, List.getElem_drop]
                  congr 1; omega
            have e1 := hmem _ (maxs_mem h0)
            have e2 := hsub _ (maxs_mem hi0)
            have e3 := (foldl_max_ge l ((l[0]?).getD 0)).2 _ e2
            have e4 := fun hx => (foldl_max_ge (innerL l) (((innerL l)[0]?).getD 0)).2 (maxs l) hx
            have e5 : l.foldl max ((l[0]?).getD 0) = maxs l := rfl
            have e6 : (innerL l).foldl max (((innerL l)[0]?).getD 0) = maxs (innerL l) := rfl
            rw [e5] at e3
            rw [e6] at e4
            constructor
            · intro h'; omega
            · intro h'
              rcases e1 with e1 | e1
              · omega
              · have := e4 e1; omega
          simp [hw, hm, hm2]
        · simp [hw]
theorem exts_nil (r : List (Span × Int)) : exts [] r = truthsL r := by unfold exts; simp
theorem zOf_zip {sp : List Span} (h : sp.length ≤ 5) : zOf sp = sp.zip [0, 0, 0, 0, 0] := by
  unfold zOf
  match sp, h with
  | [], _ => rfl
  | [a], _ => rfl
  | [a, b], _ => rfl
  | [a, b, c], _ => rfl
  | [a, b, c, d], _ => rfl
  | [a, b, c, d, e], _ => rfl
  | a :: b :: c :: d :: e :: f :: r, h => simp at h
theorem rk_eq {sp : List Span} (h5 : sp.length ≤ 5) (h0 : 0 < sp.length) (hb : ∀ x ∈ sp, 1 ≤ x.lo ∧ x.hi ≤ 9) : rk S4.none (exts [] (zOf sp)) = kindsOf (truthsL (sp.zip [0, 0, 0, 0, 0])) := by
  rw [exts_nil, ← zOf_zip h5]
  unfold rk kindsOf
  have : ∀ (L : List (List Int)) (s : S4), (∀ l ∈ L, 0 < l.length ∧ Gr l) → L.foldl (fun s l => s.add (kindR l)) s = L.foldl (fun s l => s.add (kindL l)) s := by
    intro L
    induction L with
    | nil => intros; rfl
    | cons l L ih =>
      intro s hL
      have := hL l (List.mem_cons_self ..)
      rw [List.foldl_cons, List.foldl_cons, kindR_eq this.1 this.2]
      exact ih _ (fun x hx => hL x (List.mem_cons_of_mem _ hx))
  refine this _ _ (fun l hl => ?_)
  obtain ⟨h1, h2⟩ := truthsL_mem hl
  refine ⟨by rw [h1]; simpa [zOf] using h0, fun n hn => ?_⟩
  obtain ⟨y, hy, h3⟩ := h2 n hn
  unfold zOf at hy
  rw [List.mem_map] at hy
  obtain ⟨z, hz, rfl⟩ := hy
  have := hb z hz
  dsimp only at h3
  omega
end Go.Proofs.YtkpengeaolcjhaaGreatDoor
